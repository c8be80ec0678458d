/- internal/strconv's decimal.set: the walk. Conditions: the text is digits with at most one point, an e, an exponent's digits; an empty decimal lies there. -/
import Derived.Test.YtfalbdlfopfgcaaGreatDoorSgM
import Derived.Test.YtfalbdlfopfgcaaGreatDoorSl3
import Derived.Deep.CutBlock
import Derived.StillTailTactics
namespace Go.Proofs.YtfalbdlfopfgcaaGreatDoor
open Go.RowKit

/-- What set leaves: the digits that count, and where the point stands. -/
def RetSd (w : World) (b : Nat) (t : List Nat) (dp : Int) (ng : Bool) (E : Ending) (w' : World) : Prop := E = .returned (.bool true) ∧ DcT w' b t dp ng ∧ w.grownBy w' (some b)
def SdLoop (w : World) (b i0 : Nat) (body : List Nat) (ng : Bool) (i dot dig : Value) (w' : World) : Prop := ∃ (k : Nat) (f : Nat → Nat), k ≤ body.length ∧ i = .int .i64 ((i0 + k : Nat) : Int) ∧ dot = .bool (rdB (body.take k)).dot ∧ dig = .bool (rdB (body.take k)).dig ∧ DcAt w' b f (sgB (body.take k)).length (rdB (body.take k)).dp ng false ∧ Byt f 0 (sgB (body.take k)) ∧ w.grownBy w' (some b)
def SdLoopX (w : World) (b i0 : Nat) (body : List Nat) (ng : Bool) (i dot dig : Value) (w' : World) : Prop := ∃ (f : Nat → Nat), i = .int .i64 ((i0 + body.length : Nat) : Int) ∧ dot = .bool (rdB body).dot ∧ dig = .bool (rdB body).dig ∧ DcAt w' b f (sgB body).length (rdB body).dp ng false ∧ Byt f 0 (sgB body) ∧ w.grownBy w' (some b)
def SdExp (w : World) (i1 : Nat) (ds : List Nat) (i e : Value) (w' : World) : Prop := ∃ k : Nat, k ≤ ds.length ∧ i = .int .i64 ((i1 + k : Nat) : Int) ∧ e = .int .i64 (exV (ds.take k)) ∧ w' = w
set_option maxRecDepth 100000 in
set_option maxHeartbeats 4000000 in
theorem set_any (s : ByteArray) (neg : Bool) (body sg ds : List Nat) (hs : bys s = (if neg then [45] else []) ++ body ++ [101] ++ sg ++ ds) (hb : ∀ c ∈ body, digB c = true ∨ c = 46) (hb1 : body ≠ []) (hd : ∀ c ∈ ds, digB c = true) (hd0 : ds ≠ []) (hsg : sg = [] ∨ sg = [45]) (hlen : s.size ≤ 200) (hdg : (rdB body).dig = true) (hdot : body.count 46 ≤ 1) {w : World} {b : Nat} (hD : DcAt w b (fun _ => 0) 0 0 false false) :
    Calls Tryz.prog 149 #[.pointer (some ⟨b, 0, none⟩), .string s] w (RetSd w b (sgB body) ((if (rdB body).dot = true then (rdB body).dp else ((rdB body).nd : Int)) + (if sg = [] then exV ds else -exV ds)) neg) := by
  obtain ⟨dpv, hdpv⟩ : ∃ dpv, dpv = (if (rdB body).dot = true then (rdB body).dp else ((rdB body).nd : Int)) + (if sg = [] then exV ds else -exV ds) := ⟨_, rfl⟩
  rw [← hdpv]
  replace hdpv := hid hdpv
  obtain ⟨i0, hi0⟩ : ∃ i0 : Nat, i0 = if neg then 1 else 0 := ⟨_, rfl⟩
  have hget : ∀ k c, body[k]? = some c → (bys s)[i0 + k]? = some c := fun k c h => by
    have hk := (List.getElem?_eq_some_iff.1 h).1
    rw [hs, hi0]
    cases neg
    · simp only [Bool.false_eq_true, if_false, List.nil_append, Nat.zero_add, List.append_assoc]
      rw [List.getElem?_append_left hk]
      exact h
    · simp only [if_true, List.append_assoc]
      rw [List.getElem?_append_right (by simp), List.getElem?_append_left (by simpa using hk)]
      simpa using h
  have hgE : (bys s)[i0 + body.length]? = some 101 := by
    rw [hs, hi0]
    cases neg
    · simp
    · simp [Nat.add_comm 1]
  have hgS : sg = [45] → (bys s)[i0 + body.length + 1]? = some 45 := fun h => by
    rw [hs, hi0, h]
    cases neg
    · simp
    · simp [Nat.add_comm 1]
  have hgD : ∀ k c, ds[k]? = some c → (bys s)[i0 + body.length + 1 + sg.length + k]? = some c := fun k c h => by
    rw [hs, hi0]
    rw [List.getElem?_append_right (by cases neg <;> simp <;> omega)]
    rw [← h]
    congr 1
    cases neg <;> simp <;> omega
  have hlenS : s.size = i0 + body.length + 1 + sg.length + ds.length := by
    rw [← bys_len, hs, hi0]
    cases neg <;> simp <;> omega
  have hbl : 1 ≤ body.length := List.length_pos_iff.2 hb1
  have hdl : 1 ≤ ds.length := List.length_pos_iff.2 hd0
  obtain ⟨c0, hc0⟩ : ∃ c, body[0]? = some c := ⟨body[0]'(by omega), List.getElem?_eq_getElem (by omega)⟩
  have hc0b := hb c0 (List.mem_of_getElem? hc0)
  have hg0 : ∃ c, (bys s)[0]? = some c ∧ (neg = true ∧ c = 45 ∨ neg = false ∧ c ≠ 43 ∧ c ≠ 45) := by
    cases neg
    · refine ⟨c0, ?_, .inr ⟨rfl, ?_, ?_⟩⟩
      · have := hget 0 c0 hc0
        rw [hi0] at this
        simpa using this
      · rcases hc0b with h | h
        · have := dig_le h; omega
        · omega
      · rcases hc0b with h | h
        · have := dig_le h; omega
        · omega
    · refine ⟨45, ?_, .inl ⟨rfl, rfl⟩⟩
      rw [hs]
      simp
  obtain ⟨q0, hq0, hq1⟩ := hg0
  obtain ⟨kq, eq, -⟩ := bys_get hq0
  have hi01 : i0 ≤ 1 := by rw [hi0]; split <;> omega
  have gsz : (0 : Int) < (s.size : Int) := by omega
  have hemp : (s = ByteArray.empty) = False := by
    simp only [eq_iff_iff, iff_false]
    intro h
    rw [h] at hlenS
    simp at hlenS
    omega
  have cg := hD.cg
  have ct := hD.ct
  have fg := hD.fr 802
  have ft := hD.fr 803
  have hlenS' := hid hlenS
  have hi0' := hid hi0
  replace hs := hid hs
  clear hlenS hi0 hc0 hc0b hq0
  go_enter Tryz.func149, Tryz.ntmps149
  go_upto_block 0 with (fail)
  have H2 := (hD.setG false).setT false
  have G2 := gr_set (gr_set (gr_refl w (some b)) 802 (.bool false)) 803 (.bool false)
  obtain ⟨w2, hw2⟩ : ∃ w2, w2 = (w.setCell ⟨b, 802, none⟩ (.bool false)).setCell ⟨b, 803, none⟩ (.bool false) := ⟨_, rfl⟩
  rw [← hw2] at H2 G2 ⊢
  clear hw2 cg ct fg ft hD
  go_cut [5] from 23 to 33 (fun i w' => i = .int .i64 (i0 : Int) ∧ DcAt w' b (fun _ => 0) 0 0 neg false ∧ w.grownBy w' (some b))
  case first =>
    have cg := H2.cg
    have fg := H2.fr 802
    rcases hq1 with ⟨rfl, rfl⟩ | ⟨rfl, h43, h45⟩
    · go_wp2
      go_meet
      exact ⟨by rw [hi0'.out]; rfl, H2.setG true, gr_set G2 _ _⟩
    · have e1 : ((q0 : Int) == 43) = false := beq_eq_false_iff_ne.2 (by omega)
      have e2 : ((q0 : Int) == 45) = false := beq_eq_false_iff_ne.2 (by omega)
      go_wp2
      go_meet
      exact ⟨by rw [hi0'.out]; rfl, H2, G2⟩
  case rest =>
    obtain ⟨rfl, H3, G3⟩ := hcut
    clear hq1 kq eq gsz hemp G2 H2 w2
    have hR := hid fun k => rdR_of (b := body.take k) (fun c hc => hb c (List.mem_of_mem_take hc))
    go_upto_block 1 with (fail)
    go_cut [5, 6, 7] from 34 to 116 (fun i dot dig w' => SdLoopX w b i0 body neg i dot dig w')
    case first =>
      go_wp2
      go_loopw [5, 6, 7] (fun i dot dig w' => SdLoop w b i0 body neg i dot dig w') (fun i _ _ _ => body.length + 3 - (intOf i).toNat)
      case atStart => exact ⟨0, fun _ => 0, Nat.zero_le _, by go_num, rfl, rfl, H3, (fun k c h => absurd h (by simp [sgB])), G3⟩
      case round =>
        obtain ⟨k, f, hk, rfl, rfl, rfl, hD, hB, hG⟩ := hrel
        obtain ⟨-, -, -, v4, v5, v6⟩ := rdB_inv hb k hk
        have vd := rdB_dot body k hk
        have hr := hR.out k
        have hG' := hid hG
        have hB' := hid hB
        clear hG hB
        by_cases hkl : k < body.length
        · obtain ⟨c, hc⟩ : ∃ c, body[k]? = some c := ⟨body[k]'hkl, List.getElem?_eq_getElem hkl⟩
          have hcb := hb c (List.mem_of_getElem? hc)
          obtain ⟨kk, ek, hc256⟩ := bys_get (hget k c hc)
          have hnx : rdB (body.take (k + 1)) = rdStep (rdB (body.take k)) c := by rw [take_snc hc, rdB_snoc]
          have hny : sgB (body.take (k + 1)) = sgStep (sgB (body.take k)) c := by rw [take_snc hc, sgB_snoc]
          have g1 : ((i0 + k : Nat) : Int) < (s.size : Int) := by omega
          have n95 : ((c : Int) == 95) = false := by rcases hcb with h | h <;> (unfold digB at *; simp at *; omega)
          have hdd : c = 46 → (rdB (body.take k)).dot = false := fun h => by
            rw [vd, decide_eq_false_iff_not]
            intro hm
            have h1 : 1 ≤ (body.take k).count 46 := List.count_pos_iff.2 hm
            have h2 : body = body.take k ++ body.drop k := (List.take_append_drop k body).symm
            have h3 : 1 ≤ (body.drop k).count 46 := by
              apply List.count_pos_iff.2
              rw [← h]
              exact List.mem_of_getElem? (i := 0) (by rw [List.getElem?_drop]; simpa using hc)
            rw [h2, List.count_append] at hdot
            omega
          obtain ⟨st, hst⟩ : ∃ st, st = rdB (body.take k) := ⟨_, rfl⟩
          obtain ⟨t, ht⟩ : ∃ t, t = sgB (body.take k) := ⟨_, rfl⟩
          rw [← hst] at v4 v5 v6 hnx hdd hr hD ⊢
          rw [← ht] at hr hB' hny hD
          obtain ⟨man, nd, nm, dp, dot, dig, cut⟩ := st
          have hnd : nd = t.length := hr.nd
          have hnil : t = [] ↔ nd = 0 := by rw [hnd]; exact List.length_eq_zero_iff.symm
          rw [← hnd] at hD
          simp only at v4 v5 v6 hdd hD ⊢
          have cn := hD.cn
          have cp := hD.cp
          have fp := hD.fr 801
          clear hst ht vd hc hget hgE hgS hgD hb hd hdot hdg hr
          by_cases c46 : c = 46
          · have n46 : ((c : Int) == 46) = true := by simp [c46]
            have hd0' := hdd c46
            subst hd0'
            have hN := hid (show rdB (body.take (k + 1)) = ⟨man, nd, nm, (nd : Int), true, dig, cut⟩ by rw [hnx]; unfold rdStep; rw [if_pos c46])
            have hM := hid (show sgB (body.take (k + 1)) = t by rw [hny]; unfold sgStep; rw [if_pos c46])
            have hnd' := hid hnd
            clear c46 hnx hny hdd hcb hnil hnd
            go_wp2
            go_roundw
            case rel => exact ⟨k + 1, f, hkl, by go_num, by rw [hN.out], by rw [hN.out], by rw [hN.out, hM.out, ← hnd'.out]; exact hD.setP _, by rw [hM.out]; exact hB'.out, gr_set hG'.out _ _⟩
            case measure => simp [intOf] <;> omega
          · have n46 : ((c : Int) == 46) = false := by simp; omega
            have hdb : digB c = true := hcb.resolve_right c46
            obtain ⟨d1, d2⟩ := dig_le hdb
            have f1 : (48 : Int) ≤ (c : Int) := by omega
            have f2 : (c : Int) ≤ 57 := by omega
            by_cases hz : c = 48 ∧ nd = 0
            · obtain ⟨hz1, hz2⟩ := hz
              have n48 : ((c : Int) == 48) = true := by simp [hz1]
              have hN := hid (show rdB (body.take (k + 1)) = ⟨man, nd, nm, dp - 1, dot, true, cut⟩ by rw [hnx]; unfold rdStep; rw [if_neg c46, if_pos ⟨hz1, hz2⟩])
              have hM := hid (show sgB (body.take (k + 1)) = t by rw [hny]; unfold sgStep; rw [if_neg c46, if_pos ⟨hz1, hnil.2 hz2⟩])
              have nd0 : ((nd : Int) == 0) = true := by simp [hz2]
              have hnd' := hid hnd
              clear c46 hnx hny hdd hcb hz1 hz2 hnil hnd
              go_wp2
              go_roundw
              case rel => exact ⟨k + 1, f, hkl, by go_num, by rw [hN.out], by rw [hN.out], by rw [hN.out, hM.out, ← hnd'.out]; exact hD.setP _, by rw [hM.out]; exact hB'.out, gr_set hG'.out _ _⟩
              case measure => simp [intOf] <;> omega
            · have n48 : (((c : Int) == 48) = false) ∨ (((c : Int) == 48) = true ∧ ((nd : Int) == 0) = false) := by
                by_cases h : c = 48
                · right
                  exact ⟨by simp [h], by simp; omega⟩
                · left
                  simp
                  omega
              have hM := hid (show sgB (body.take (k + 1)) = t ++ [c - 48] by rw [hny]; unfold sgStep; rw [if_neg c46, if_neg (fun h : c = 48 ∧ t = [] => hz ⟨h.1, hnil.1 h.2⟩)])
              have hN : Hid ((rdB (body.take (k + 1))).dot = dot ∧ (rdB (body.take (k + 1))).dig = true ∧ (rdB (body.take (k + 1))).dp = dp) := hid (by
                rw [hnx]
                unfold rdStep
                rw [if_neg c46, if_neg hz]
                split <;> exact ⟨rfl, rfl, rfl⟩)
              have cj := hD.cd (k := nd) (by omega)
              have fj := hD.fr nd
              have fn := hD.fr 800
              have g800 : (nd : Int) < 800 := by omega
              have hnd' := hid hnd
              clear c46 hnx hny hdd hcb hz hnil hnd
              have hc48 : Hid (48 + (c - 48) = c) := hid (by omega)
              rcases n48 with n48 | ⟨n48, nd0⟩
              all_goals
                go_wp2
                go_still_tail 11, (by kernel_rfl)
                change wpList _ _ _ _ _ wr.drew
                have hD4 : DcAt wr.drew b f nd dp neg false := hD
                have hG4 : Hid (w.grownBy wr.drew (some b)) := hid (gr_drewN hG'.out 1)
                obtain ⟨w4, hw4⟩ : ∃ w4, w4 = wr.drew := ⟨_, rfl⟩
                rw [← hw4] at hD4 hG4 ⊢
                clear hw4 hD cn cp fp cj fj fn
                have cn := hD4.cn
                have cj := hD4.cd (k := nd) (by omega)
                have fj := hD4.fr nd
                have fn := hD4.fr 800
                have H5 := hD4.setD (k := nd) (by omega) c
                have cn5 := H5.cn
                have fn5 := H5.fr 800
                go_wp2
                go_roundw
                case rel =>
                  have hsz : (sgB (body.take (k + 1))).length = nd + 1 := by rw [hM.out, List.length_append, List.length_singleton, hnd'.out]
                  refine ⟨k + 1, fun j => if j = nd then c else f j, hkl, by go_num, by rw [hN.out.1], by rw [hN.out.2.1], ?_, ?_, gr_set (gr_set hG4.out _ _) _ _⟩
                  · rw [hsz, hN.out.2.2]
                    exact H5.setN (nd + 1)
                  · rw [hM.out]
                    have := hB'.out.snoc (c := c - 48) (v := c) hc48.out.symm
                    rw [Nat.zero_add, ← hnd'.out] at this
                    exact this
                case measure => simp [intOf] <;> omega
        · obtain rfl : k = body.length := by omega
          rw [List.take_length] at hD hB' v4 v5 v6
          simp only [List.take_length]
          obtain ⟨ke, ee, -⟩ := bys_get hgE
          have g1 : ((i0 + body.length : Nat) : Int) < (s.size : Int) := by omega
          clear hget hgE hgS hgD hb hd hdot hdg hr vd hk hkl
          go_wp2
          go_meet
          exact ⟨f, by go_num, rfl, rfl, hD, hB'.out, hG'.out⟩
    case rest =>
      obtain ⟨f, rfl, rfl, rfl, hD, hB, hG⟩ := hcut
      obtain ⟨-, -, -, v4, v5, v6⟩ := rdB_inv hb body.length (Nat.le_refl _)
      rw [List.take_length] at v4 v5 v6
      have hr := hR.out body.length
      rw [List.take_length] at hr
      rw [hdg]
      obtain ⟨dt, hdt⟩ : ∃ dt, dt = (rdB body).dot := ⟨_, rfl⟩
      obtain ⟨dq, hdq⟩ : ∃ dq, dq = (rdB body).dp := ⟨_, rfl⟩
      obtain ⟨L, hL⟩ : ∃ L, L = (sgB body).length := ⟨_, rfl⟩
      have hnd := hr.nd
      obtain ⟨bl, hbl2⟩ : ∃ bl, bl = body.length := ⟨_, rfl⟩
      have hsz := hlenS'.out
      rw [← hdt, ← hdq, hnd, ← hL] at hdpv
      rw [← hdq] at hD v5 v6
      rw [← hdt, ← hbl2]
      rw [← hL] at hD hnd
      rw [← hbl2] at v4 v5 v6 hsz hgE hgS hgD hbl
      obtain ⟨dp1, hdp1⟩ : ∃ dp1, dp1 = if dt = true then dq else (L : Int) := ⟨_, rfl⟩
      rw [← hdp1] at hdpv
      have hdp1b : -200 ≤ dp1 ∧ dp1 ≤ 200 := by
        rw [hdp1]
        split <;> omega
      replace hdp1 := hid hdp1
      have hB' := hid hB
      have hG' := hid hG
      have hL' := hid hL
      have cn := hD.cn
      have cp := hD.cp
      have fp := hD.fr 801
      obtain ⟨ke, ee, -⟩ := bys_get hgE
      obtain ⟨d0, hd1⟩ : ∃ d, ds[0]? = some d := ⟨ds[0]'(by omega), List.getElem?_eq_getElem (by omega)⟩
      have hdd := dig_le (hd d0 (List.mem_of_getElem? hd1))
      have hD0 := hgD 0 d0 hd1
      have HX := hid fun k (hk : k ≤ ds.length) => exV_b hd k hk
      have hgD' := hid hgD
      have hd' := hid hd
      have hgS' := hid hgS
      have hsg' := hid hsg
      have g7 : ((i0 + bl : Nat) : Int) < (s.size : Int) := by omega
      have g8 : ((i0 + bl : Nat) : Int) + 1 < (s.size : Int) := by omega
      have hszh := hid hsz
      clear hsz
      clear hB hG hL hbl2 hdt hdq hr hR hget hgE hb hdot hdg hd hgD hgS hd1 hsg hb1 hd0 v4 v5 v6 hnd
      go_upto_if 120 with (fail)
      go_cut [5] from 117 to 127 (fun i w' => i = .int .i64 ((i0 + bl : Nat) : Int) ∧ DcAt w' b f L dp1 neg false ∧ w.grownBy w' (some b))
      case first =>
        cases dt
        · have e : Hid (dp1 = (L : Int)) := hid (by rw [hdp1.out, if_neg (by decide)])
          go_wp2
          go_meet
          exact ⟨by go_num, by rw [e.out]; exact hD.setP _, gr_set hG'.out _ _⟩
        · have e : Hid (dp1 = dq) := hid (by rw [hdp1.out, if_pos rfl])
          go_wp2
          go_meet
          exact ⟨by go_num, by rw [e.out]; exact hD, hG'.out⟩
      case rest =>
        obtain ⟨rfl, hD5, hG5⟩ := hcut
        have hG5' := hid hG5
        clear hG' hG5 hD cn cp fp
        have cp := hD5.cp
        have fp := hD5.fr 801
        have HL2 := hid fun w => lower_v 101 101 rfl (.inr (.inr rfl)) w
        have hsz := hszh.out
        obtain ⟨i1, hi1⟩ : ∃ i1, i1 = i0 + bl + 1 + sg.length := ⟨_, rfl⟩
        rw [← hi1] at hD0 hsz hgD'
        rw [Nat.add_zero] at hD0
        obtain ⟨kd, ed, -⟩ := bys_get hD0
        have hi1' := hid hi1
        obtain ⟨es, hes⟩ : ∃ es : Int, es = if sg = [] then 1 else -1 := ⟨_, rfl⟩
        have hes' := hid hes
        obtain ⟨q1, hq1, kq1, eq1⟩ : ∃ q1, (sg = [] ∧ q1 = d0 ∧ i1 = i0 + bl + 1 ∧ es = 1 ∨ sg = [45] ∧ q1 = 45 ∧ i1 = i0 + bl + 2 ∧ es = -1) ∧ ∃ h : i0 + bl + 1 < s.size, (s[i0 + bl + 1]'h).toNat = q1 := by
          rcases hsg'.out with h | h
          · refine ⟨d0, .inl ⟨h, rfl, by rw [hi1, h]; rfl, by rw [hes, if_pos h]⟩, ?_⟩
            have e : i1 = i0 + bl + 1 := by rw [hi1, h]; rfl
            subst e
            exact ⟨kd, ed⟩
          · refine ⟨45, .inr ⟨h, rfl, by rw [hi1, h]; rfl, by rw [hes, h]; rfl⟩, ?_⟩
            obtain ⟨k1, e1, -⟩ := bys_get (hgS'.out h)
            exact ⟨k1, e1⟩
        have hszq := hid hsz
        have g10 : (i1 : Int) < (s.size : Int) := by omega
        clear hi1 hes hD0
        have g9 : ((i0 + bl + 1 : Nat) : Int) < (s.size : Int) := by omega
        clear hsz
        go_upto_block 4 with (go_at_call 167; first | ((with_reducible refine (HL2.out _).mono ?_); rintro E1 w1 ⟨rfl, rfl⟩))
        go_cut [5, 8] from 148 to 155 (fun i e w' => i = .int .i64 (i1 : Int) ∧ e = .int .i64 es ∧ w' = w1)
        case first =>
          rcases hq1 with ⟨-, rfl, rfl, rfl⟩ | ⟨-, rfl, rfl, rfl⟩
          · have n43 : ((q1 : Int) == 43) = false := beq_eq_false_iff_ne.2 (by omega)
            have n45 : ((q1 : Int) == 45) = false := beq_eq_false_iff_ne.2 (by omega)
            go_wp2
            go_meet
            exact ⟨by go_num, rfl, rfl⟩
          · go_wp2
            go_meet
            exact ⟨by go_num, rfl, rfl⟩
        case rest =>
          obtain ⟨rfl, rfl, rfl⟩ := hcut
          have f3 : (48 : Int) ≤ (d0 : Int) := by omega
          have f4 : (d0 : Int) ≤ 57 := by omega
          have hes2 : es = 1 ∨ es = -1 := by
            rcases hq1 with ⟨-, -, -, h⟩ | ⟨-, -, -, h⟩
            · exact .inl h
            · exact .inr h
          have hes3 := hid hes2
          clear hq1 eq1 kq1 g9 g8 g7 ee ke hes2
          have hsz := hszq.out
          go_wp2
          clear kd ed f3 f4 g10 hdd
          go_loopw [5, 9] (fun i e w' => SdExp wc i1 ds i e w') (fun i _ _ => ds.length + i1 + 3 - (intOf i).toNat)
          case atStart => exact ⟨0, Nat.zero_le _, by go_num, rfl, rfl⟩
          case round =>
            obtain ⟨k, hk, rfl, rfl, rfl⟩ := hrel
            have hs1 := hsz
            by_cases hkl : k < ds.length
            · obtain ⟨c, hc⟩ : ∃ c, ds[k]? = some c := ⟨ds[k]'hkl, List.getElem?_eq_getElem hkl⟩
              obtain ⟨d1, d2⟩ := dig_le (hd'.out c (List.mem_of_getElem? hc))
              obtain ⟨kk, ek, -⟩ := bys_get (hgD'.out k c hc)
              obtain ⟨x1, x2⟩ := HX.out k hk
              have hX := hid (show exV (ds.take (k + 1)) = exStep (exV (ds.take k)) c by rw [take_snc hc, exV_snoc])
              generalize exV (ds.take k) = x at x1 x2 hX ⊢
              have f1 : (48 : Int) ≤ (c : Int) := by omega
              have f2 : (c : Int) ≤ 57 := by omega
              have n95 : ((c : Int) == 95) = false := by simp; omega
              have g8 : ((i1 : Int) + (k : Int)) < (s.size : Int) := by omega
              clear hc d1 d2 hs hk hs1 hsz cp fp
              by_cases hx : x < 10000
              · go_wp2
                go_roundw
                case rel => exact ⟨k + 1, hkl, by go_num, by rw [hX.out]; unfold exStep; rw [if_pos hx], rfl⟩
                case measure => simp [intOf] <;> omega
              · go_wp2
                go_roundw
                case rel => exact ⟨k + 1, hkl, by go_num, by rw [hX.out]; unfold exStep; rw [if_neg (by omega)], rfl⟩
                case measure => simp [intOf] <;> omega
            · obtain rfl : k = ds.length := by omega
              obtain ⟨x1, x2⟩ := HX.out _ (Nat.le_refl _)
              rw [List.take_length] at x1 x2 ⊢
              obtain ⟨x, hxe⟩ : ∃ x, x = exV ds := ⟨_, rfl⟩
              rw [← hxe] at x1 x2 ⊢
              have hfin : Hid (dp1 + x * es = dpv) := hid (by
                rw [hdpv.out, hes'.out, hxe]
                split <;> omega)
              clear hxe hs hk hkl
              have n50 : ((i1 + ds.length : Nat) : Int) = (s.size : Int) := by omega
              have n51 : ¬ ((i1 + ds.length : Nat) : Int) < (s.size : Int) := by omega
              rcases hes3.out with rfl | rfl
              · have hfin2 : Hid (dp1 + x = dpv) := hid (by have := hfin.out; omega)
                go_wp2
                go_ret
                refine ⟨rfl, ⟨f, ?_, hB'.out⟩, gr_set hG5'.out _ _⟩
                rw [← hL'.out, ← hfin2.out]
                exact hD5.setP _
              · have hfin2 : Hid (dp1 + -x = dpv) := hid (by have := hfin.out; omega)
                go_wp2
                go_ret
                refine ⟨rfl, ⟨f, ?_, hB'.out⟩, gr_set hG5'.out _ _⟩
                rw [← hL'.out, ← hfin2.out]
                exact hD5.setP _
end Go.Proofs.YtfalbdlfopfgcaaGreatDoor

