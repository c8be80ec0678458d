/- internal/strconv.leftShift: the walk. Conditions: the decimal and the table lie there, a shift from 1 to 60, room for the digits. internal/strconv's decimal: Shift, RoundedInteger: walks. Conditions: the decimal and the table lie there; room for the digits. -/
import Derived.Test.YtfalbdlfopfgcaaGreatDoorSl3
import Derived.Test.YtfalbdlfopfgcaaGreatDoorSgM
namespace Go.Proofs.YtfalbdlfopfgcaaGreatDoor
open Go.RowKit

/-- The table of the shifts to the left lies in the world. -/
structure CTab (w : World) (cb co : Nat) : Prop where
  h : w.cell? ⟨14, 0, none⟩ = some (.slice (some ⟨cb, co, none⟩) 61 61)
  d : ∀ i, i < 61 → w.cell? ⟨cb, co + i * 2, none⟩ = some (.int .i64 (chD i : Nat))
  s : ∀ i, i < 61 → ∃ s, w.cell? ⟨cb, co + i * 2 + 1, none⟩ = some (.string s) ∧ bys s = (chU i).map (48 + ·)
theorem CTab.gr {w w' : World} {b cb co : Nat} (h : CTab w cb co) (hb : 14 ≠ b) (hc : cb ≠ b) (hg : w.grownBy w' (some b)) : CTab w' cb co :=
  ⟨gr_cell hg hb h.h, fun i hi => gr_cell hg hc (h.d i hi), fun i hi => by
    obtain ⟨s, h1, h2⟩ := h.s i hi
    exact ⟨s, gr_cell hg hc h1, h2⟩⟩
/-- What a shift to the left leaves: digits whose number is the number that stood there, times 2^k. -/
def RetLs (w : World) (b : Nat) (t : List Nat) (dp : Int) (ng : Bool) (k : Nat) (E : Ending) (w' : World) : Prop := E = .returned (.tuple #[]) ∧ (∃ t' dp', DcT w' b t' dp' ng ∧ Nrm t' ∧ t'.getLast? ≠ some 0 ∧ Eqv (dv t * 2 ^ k) (dp - t.length) (dv t') (dp' - t'.length)) ∧ w.grownBy w' (some b)
def LsIn (w : World) (b : Nat) (f : Nat → Nat) (k D : Nat) (t : List Nat) (L : Nat) (dp : Int) (ng : Bool) (r x n : Value) (w' : World) : Prop := ∃ (p : Nat) (f' : Nat → Nat), p ≤ L ∧ r = .int .i64 ((p : Int) - 1) ∧ x = .int .i64 ((D + p : Nat) : Int) ∧ n = .int .u64 (((lsOut k (t.drop p)).2 : Nat) : Int) ∧ DcAt w' b f' L dp ng false ∧ Byt f' (D + p) (lsOut k (t.drop p)).1 ∧ (∀ q, q < D + p → f' q = f q) ∧ w.grownBy w' (some b)
def LsUp (w : World) (b k : Nat) (t : List Nat) (L : Nat) (dp : Int) (ng : Bool) (x n : Value) (w' : World) : Prop := ∃ (m : Nat) (l : List Nat) (f' : Nat → Nat), x = .int .i64 (((dgs m).length : Nat) : Int) ∧ n = .int .u64 (m : Int) ∧ m < 18446744073709551616 ∧ DcAt w' b f' L dp ng false ∧ Byt f' (dgs m).length l ∧ dgs m ++ l = lsAll k t ∧ w.grownBy w' (some b)
theorem ls_small (k : Nat) {t : List Nat} (h : ∀ c ∈ t, c < 10) : (lsOut k t).2 < 2 ^ k := by
  rw [ls_carry]
  apply Nat.div_lt_of_lt_mul
  exact Nat.mul_lt_mul_of_pos_right (dv_lt t h) (Nat.two_pow_pos k)
theorem Byt.cons {f : Nat → Nat} {o : Nat} {t : List Nat} {c v : Nat} (h : Byt f (o + 1) t) (hv : v = 48 + c) : Byt (fun z => if z = o then v else f z) o (c :: t) := fun z x hz => by
  cases z with
  | zero =>
    have : c = x := by simpa using hz
    show (if o + 0 = o then v else f (o + 0)) = _
    rw [if_pos (by omega), hv, this]
  | succ z =>
    have hz' : t[z]? = some x := by simpa using hz
    show (if o + (z + 1) = o then v else f (o + (z + 1))) = _
    rw [if_neg (by omega), show o + (z + 1) = o + 1 + z by omega]
    exact h z x hz'
set_option maxRecDepth 100000 in
set_option maxHeartbeats 4000000 in
theorem leftShift_any {w : World} {b cb co : Nat} {f : Nat → Nat} {t : List Nat} {dp : Int} {ng : Bool} (H : DcAt w b f t.length dp ng false) (hf : Byt f 0 t) (hn : Nrm t) (k : Nat) (hk1 : 1 ≤ k) (hk : k ≤ 60) (hdp : -2000 ≤ dp ∧ dp ≤ 2000)
    (hroom : t.length + chD k ≤ 800) (hT : CTab w cb co) :
    Calls Tryz.prog 190 #[.pointer (some ⟨b, 0, none⟩), .int .u64 k] w (RetLs w b t dp ng k) := by
  have hf' := hid hf
  have hn' := hid hn
  have hL := hn.len
  have hpos := hn.pos
  have p60 : (2 : Nat) ^ k ≤ 2 ^ 60 := Nat.pow_le_pow_right (by decide) hk
  have e60 : (2 : Nat) ^ 60 = 1152921504606846976 := by decide
  rw [e60] at p60
  have hp0 := Nat.two_pow_pos k
  obtain ⟨g, hg⟩ : ∃ g, g = 2 ^ k := ⟨_, rfl⟩
  rw [← hg] at p60 hp0
  have hg' := hid hg
  have ki : ((k : Int)) < 61 := by omega
  have cn := H.cn
  have hLi : (t.length : Int) ≤ 800 := by omega
  have hLi0 : (0 : Int) ≤ (t.length : Int) := by omega
  have fr := H.fr
  have t0 := hT.h
  have td := hT.d k (by omega)
  obtain ⟨s, ts, hs⟩ := hT.s k (by omega)
  have hDl := lsD_le k t
  obtain ⟨Dc, hDc⟩ : ∃ Dc, Dc = chD k := ⟨_, rfl⟩
  rw [← hDc] at td hDl hroom
  have hDd : Hid (lsD k t = if pless t (chU k) = true then Dc - 1 else Dc) := hid (by rw [hDc]; rfl)
  have hDlaw := hid (lsD_law (show k ≠ 0 by omega) (show k < 61 by omega) hn)
  have hDc19 : Dc ≤ 19 := by
    have h : ∀ k : Fin 61, chD k.val ≤ 19 := by decide +kernel
    rw [hDc]
    exact h ⟨k, by omega⟩
  have hDc1 : 1 ≤ Dc := by
    have h := (ch_rows ⟨k, by omega⟩).resolve_left (by simp; omega)
    rw [hDc]
    exact h.1
  have hE := hid (ls_eqv (show k ≠ 0 by omega) (show k < 61 by omega) hn dp)
  obtain ⟨D, hD⟩ : ∃ D, D = lsD k t := ⟨_, rfl⟩
  rw [← hD] at hDl
  have hD' := hid hD
  have hP := hid fun n => pless_any (w := w.drewN n) (b := b) (cap := 800) (t := t) (U := chU k) (s := s) (fun j hj => by
    have := H.cd (k := j) (by omega)
    rw [hf.get hj] at this
    exact this) hs (by have h : ∀ k : Fin 61, (chU k.val).length ≤ 800 := by decide +kernel
                       exact h ⟨k, by omega⟩) hn.lt (chU_ok ⟨k, by omega⟩).1
  obtain ⟨B, hB⟩ : ∃ B, B = pless t (chU k) := ⟨_, rfl⟩
  rw [← hB] at hP hDd
  replace hB := hid hB
  clear hf hn hT hg hDc hD hs
  go_enter Tryz.func190, Tryz.ntmps190
  go_upto_region 1 with (fail)
  go_quiet ((go_at_call 193; exact Calls.quiet_of (hP.out _)))
  go_upto_if 30 with (fail)
  go_cut [4] from 31 to 32 (fun d w' => d = .int .i64 (D : Nat) ∧ w' = w.drewN nq)
  case first =>
    cases B
    · have hDe : Hid (Dc = D) := hid (by rw [hD'.out, hDd.out, if_neg (by decide)])
      go_wp2
      go_meet
      exact ⟨by rw [hDe.out], rfl⟩
    · have hDe : Hid (Dc - 1 = D) := hid (by rw [hD'.out, hDd.out, if_pos rfl])
      go_wp2
      go_meet
      exact ⟨by rw [show ((D : Nat) : Int) = (Dc : Int) - 1 by have := hDe.out; omega], rfl⟩
  case rest =>
    obtain ⟨rfl, rfl⟩ := hcut
    clear t0 td ts hP hDd
    have H1 := H.drewN nq
    have G1 := gr_drewN (gr_refl w (some b)) nq
    have cn := H1.cn
    clear H
    obtain ⟨w1, hw1⟩ : ∃ w1, w1 = w.drewN nq := ⟨_, rfl⟩
    rw [← hw1] at H1 G1 cn ⊢
    clear hw1
    obtain ⟨L, hLe⟩ : ∃ L, L = t.length := ⟨_, rfl⟩
    rw [← hLe] at hL hpos hroom hLi hLi0 H1 cn
    replace hLe := hid hLe
    go_wp2
    go_loopw [5, 6, 7] (fun r x n w' => LsIn w b f k D t L dp ng r x n w') (fun r _ _ _ => (intOf r + 1).toNat)
    case atStart => exact ⟨L, f, Nat.le_refl _, rfl, by go_num, by rw [hLe.out, List.drop_length]; rfl, H1, fun q c h => absurd h (by rw [hLe.out, List.drop_length]; simp [lsOut]), fun q _ => rfl, G1⟩
    case round =>
      obtain ⟨p, f2, hp, rfl, rfl, rfl, H3, B3, A3, G3⟩ := hrel
      have hlo := hLe.out
      obtain ⟨n, hne⟩ : ∃ n, n = (lsOut k (t.drop p)).2 := ⟨_, rfl⟩
      rw [← hne]
      have hng : n < g := by
        rw [hne, hg'.out]
        exact ls_small k fun c hc => hn'.out.lt c (List.mem_of_mem_drop hc)
      have hne' := hid hne
      clear hne
      by_cases hp0' : 0 < p
      · have e1 : (0 : Int) ≤ (p : Int) - 1 := by omega
        have cd := H3.cd (k := p - 1) (by omega)
        rw [A3 (p - 1) (by omega), hf'.out.get (k := p - 1) (by omega)] at cd
        have hcl : t.getD (p - 1) 0 < 10 := by
          rw [List.getD_eq_getElem?_getD, List.getElem?_eq_getElem (by omega)]
          exact hn'.out.lt _ (List.getElem_mem _)
        have hsn : Hid (t.drop (p - 1) = t.getD (p - 1) 0 :: t.drop p) := hid <| by
          rw [List.drop_eq_getElem_cons (by omega : p - 1 < t.length), List.getD_eq_getElem?_getD, List.getElem?_eq_getElem (by omega), show p - 1 + 1 = p by omega]
          rfl
        obtain ⟨c0, hc0⟩ : ∃ c0, c0 = t.getD (p - 1) 0 := ⟨_, rfl⟩
        rw [← hc0] at cd hcl hsn
        obtain ⟨c, hc⟩ : ∃ c, c = 48 + c0 := ⟨_, rfl⟩
        rw [← hc] at cd
        obtain ⟨y, hy⟩ : ∃ y, y = c0 * g := ⟨_, rfl⟩
        have hy9 : y ≤ 9 * g := by rw [hy]; exact Nat.mul_le_mul_right _ (by omega)
        have s1 : IntKind.u64.wrap (((c : Int) - 48) * 2 ^ k) = (y : Int) := by
          rw [← two_int hg'.out, show (c : Int) - 48 = (c0 : Int) by omega, ← Int.natCast_mul, ← hy]
          rw [IntKind.wrap_u64]
          omega
        have e2 : (p : Int) - 1 = ((p - 1 : Nat) : Int) := by omega
        have f3 := H3.fr (D + p - 1)
        have cj := H3.cd (k := D + p - 1) (by omega)
        have i8 : ((p - 1 : Nat) : Int) < 800 := by omega
        have i9 : ((D + p : Nat) : Int) - 1 < 800 := by omega
        have c1 : (48 : Int) ≤ (c : Int) := by omega
        have c2 : (c : Int) ≤ 57 := by omega
        obtain ⟨q, hq⟩ : ∃ q, q = (n + y) / 10 := ⟨_, rfl⟩
        obtain ⟨z, hz⟩ : ∃ z, z = (n + y) % 10 := ⟨_, rfl⟩
        have s3 : ((n : Int) + (y : Int)) / 10 = (q : Int) := by omega
        have s4 : (n : Int) + (y : Int) - 10 * (q : Int) = (z : Int) := by omega
        have z10 : z < 10 := by omega
        have hqz := hid (And.intro hq hz)
        have hyy : Hid (y = c0 * 2 ^ k) := hid (by rw [hy, hg'.out])
        clear hq hz hy hc hc0 hcl hlo
        go_wp2
        go_roundw
        case rel =>
          have ep : D + p - 1 = D + (p - 1) := by omega
          refine ⟨p - 1, fun v => if v = D + (p - 1) then z + 48 else f2 v, by omega, rfl, by go_num, ?_, ?_, ?_, fun v hv => ?_, gr_set G3 _ _⟩
          · rw [hsn.out]
            simp only [lsOut]
            rw [← hne'.out, ← hyy.out, ← hqz.out.1, s3]
          · have h := H3.setD (k := D + (p - 1)) (by omega) (z + 48)
            rw [Int.natCast_add, ← ep] at h
            rw [← ep]
            exact h
          · rw [hsn.out]
            simp only [lsOut]
            rw [← hne'.out, ← hyy.out, ← hqz.out.2]
            have := B3
            rw [show D + p = D + (p - 1) + 1 by omega] at this
            exact this.cons (Nat.add_comm _ _)
          · show (if v = D + (p - 1) then z + 48 else f2 v) = f v
            rw [if_neg (by omega)]
            exact A3 v (by omega)
        case measure => simp [intOf] <;> omega
      · obtain rfl : p = 0 := by omega
        have e1 : ¬ (0 : Int) ≤ ((0 : Nat) : Int) - 1 := by omega
        rw [List.drop_zero] at hne' B3
        have hDD : Hid ((dgs n).length = D) := hid (by rw [hne'.out, hDlaw.out, hD'.out])
        have hnl : Hid (n < 18446744073709551616) := hid (by omega)
        have hlo' := hid hlo
        clear hng hlo
        go_wp2
        clear e1
        go_loopw [6, 7] (fun x n w' => LsUp w b k t L dp ng x n w') (fun x _ _ => (intOf x).toNat)
        case atStart => exact ⟨n, (lsOut k t).1, f2, by rw [hDD.out], rfl, hnl.out, H3, by rw [hDD.out]; exact B3, by unfold lsAll; rw [hne'.out], G3⟩
        case round =>
          obtain ⟨m, l, f4, rfl, rfl, hm64, H5, B5, hlA, G5⟩ := hrel
          have hlen : (dgs m).length ≤ 800 := by
            have h1 := congrArg List.length hlA
            have h2 : (lsAll k t).length = D + t.length := by
              unfold lsAll
              rw [List.length_append, ls_len, hDlaw.out, hD'.out]
            rw [List.length_append, h2] at h1
            have := hlo'.out
            omega
          have hlA' := hid hlA
          clear hlA
          by_cases h0 : m = 0
          · have e1 : ¬ (0 : Int) < (m : Int) := by omega
            have hlo := hlo'.out
            have hl : Hid (l = lsAll k t) := hid (by rw [← hlA'.out, h0, dgs_0]; rfl)
            have hB : Hid (Byt f4 0 (lsAll k t)) := hid (by rw [h0, dgs_0, hl.out] at B5; exact B5)
            have hll : (lsAll k t).length = D + L := by
              unfold lsAll
              rw [List.length_append, ls_len, hDlaw.out, hD'.out, hlo]
            have hnr := hid (ls_nrm hn'.out (k := k) (by omega))
            have cn5 := H5.cn
            have fn5 := H5.fr 800
            have cp5 := H5.cp
            have fp5 := H5.fr 801
            have H6 := H5.setN (L + D)
            have cn6 := H6.cn
            have fn6 := H6.fr 800
            have cp6 := H6.cp
            have fp6 := H6.fr 801
            have hE2 : Hid (∀ t', Trm (lsAll k t) t' → Eqv (dv t * 2 ^ k) (dp - t.length) (dv t') (dp + D - t'.length)) := hid fun t' hT' => by
              have := hE.out
              rw [← hD'.out] at this
              exact this.trans (hT'.eqv (dp + D))
            rw [Int.natCast_add] at cn6 fn6 cp6 fp6
            have hlen' := hid hlen
            by_cases h800 : L + D = 800
            · have e8 : (800 : Int) ≤ (L : Int) + (D : Int) := by omega
              have H6b := H6.setN 800
              have cp7 := H6b.cp
              have fp7 := H6b.fr 801
              have H7 := H6b.setP (dp + D)
              have G7 := gr_set (gr_set (gr_set G5 800 (.int .i64 ((L + D : Nat) : Int))) 800 (.int .i64 ((800 : Nat) : Int))) 801 (.int .i64 (dp + D))
              rw [Int.natCast_add] at H7 G7 cp7 fp7
              have H8 : DcAt (((wr.setCell ⟨b, 800, none⟩ (.int .i64 ((L : Int) + (D : Int)))).setCell ⟨b, 800, none⟩ (.int .i64 800)).setCell ⟨b, 801, none⟩ (.int .i64 (dp + D))) b f4 (lsAll k t).length (dp + D) ng false := by rw [hll, Nat.add_comm, h800]; exact H7
              have HT := hid (trim_any H8 hB.out hnr.out)
              have G7' := hid G7
              clear H7 H8 G7 H6b hlo h0 hll hlen B5 h800
              go_wp2_with (first
                | (go_at_call 194; (with_reducible refine HT.out.mono ?_); rintro E1 w9 ⟨rfl, ⟨t', hT', hD9⟩, hG9⟩))
              go_end0
              exact ⟨rfl, ⟨t', dp + D, hD9, hT'.nrm hnr.out, hT'.last, hE2.out t' hT'⟩, gr_trans G7'.out hG9⟩
            · have H7 := H6.setP (dp + D)
              have G7 := gr_set (gr_set G5 800 (.int .i64 ((L + D : Nat) : Int))) 801 (.int .i64 (dp + D))
              rw [Int.natCast_add] at H7 G7
              have H8 : DcAt ((wr.setCell ⟨b, 800, none⟩ (.int .i64 ((L : Int) + (D : Int)))).setCell ⟨b, 801, none⟩ (.int .i64 (dp + D))) b f4 (lsAll k t).length (dp + D) ng false := by rw [hll, Nat.add_comm]; exact H7
              have HT := hid (trim_any H8 hB.out hnr.out)
              have G7' := hid G7
              have e8 : ¬ (800 : Int) ≤ (L : Int) + (D : Int) := by omega
              clear H7 H8 G7 hlo h0 hll hlen B5 h800
              go_wp2_with (first
                | (go_at_call 194; (with_reducible refine HT.out.mono ?_); rintro E1 w9 ⟨rfl, ⟨t', hT', hD9⟩, hG9⟩))
              go_end0
              exact ⟨rfl, ⟨t', dp + D, hD9, hT'.nrm hnr.out, hT'.last, hE2.out t' hT'⟩, gr_trans G7'.out hG9⟩
          · have e1 : (0 : Int) < (m : Int) := by omega
            have hdg := dgs_pos h0
            have hdl : (dgs m).length = (dgs (m / 10)).length + 1 := by rw [hdg, List.length_append, List.length_singleton]
            obtain ⟨v, hv⟩ : ∃ v, v = (dgs (m / 10)).length := ⟨_, rfl⟩
            obtain ⟨u, hu⟩ : ∃ u, u = (dgs m).length := ⟨_, rfl⟩
            rw [← hv, ← hu] at hdl
            rw [← hu] at hlen B5 ⊢
            obtain ⟨q, hq⟩ : ∃ q, q = m / 10 := ⟨_, rfl⟩
            obtain ⟨z, hz⟩ : ∃ z, z = m % 10 := ⟨_, rfl⟩
            have s3 : (m : Int) / 10 = (q : Int) := by omega
            have s4 : (m : Int) - 10 * (q : Int) = (z : Int) := by omega
            have z10 : z < 10 := by omega
            rw [← hq] at hv hdg
            rw [← hz] at hdg
            have f3 := H5.fr (u - 1)
            have cj := H5.cd (k := u - 1) (by omega)
            have e2 : (u : Int) - 1 = ((u - 1 : Nat) : Int) := by omega
            have i9 : ((u - 1 : Nat) : Int) < 800 := by omega
            have hdgv := hid (And.intro hv hdg)
            have hudl := hid hdl
            have hq64 : Hid (q < 18446744073709551616) := hid (by omega)
            have hu1 : Hid (0 < u) := hid (by omega)
            clear hq hz hv hdg hu hdl h0
            go_wp2
            go_roundw
            case rel =>
              refine ⟨q, z :: l, fun x => if x = v then z + 48 else f4 x, ?_, by go_num, hq64.out, ?_, ?_, ?_, gr_set G5 _ _⟩
              · rw [← hdgv.out.1]; have := hudl.out; go_num
              · have h := H5.setD (k := v) (by have := hudl.out; omega) (z + 48)
                rw [Int.natCast_add, ← show u - 1 = v by have := hudl.out; omega] at h
                rw [← show u - 1 = v by have := hudl.out; omega]
                exact h
              · rw [← hdgv.out.1]
                have := B5
                rw [hudl.out] at this
                exact this.cons (Nat.add_comm _ _)
              · rw [← hlA'.out, hdgv.out.2, List.append_assoc]
                rfl
            case measure => simp [intOf]; have := hu1.out; omega
end Go.Proofs.YtfalbdlfopfgcaaGreatDoor

namespace Go.Proofs.YtfalbdlfopfgcaaGreatDoor
open Go.RowKit

theorem lt_of_mul10 {x y k : Nat} (h : x < y * 10 ^ k) : x < y * 10 ^ k := h
theorem int_lt {t : List Nat} (h : Nrm t) (i : Nat) : dv (t.take i) * 10 ^ (i - t.length) < 10 ^ i := by
  have h1 := dv_lt (t.take i) fun c hc => h.lt c (List.mem_of_mem_take hc)
  rw [List.length_take] at h1
  have h2 := Nat.mul_lt_mul_of_pos_right h1 (pw10 (i - t.length))
  rw [← Nat.pow_add, show min i t.length + (i - t.length) = i by omega] at h2
  exact h2
def RiOne (w : World) (t : List Nat) (P : Nat) (i n : Value) (w' : World) : Prop := ∃ k : Nat, k ≤ P ∧ k ≤ t.length ∧ i = .int .i64 (k : Int) ∧ n = .int .u64 ((dv (t.take k) : Nat) : Int) ∧ w' = w
def RiTwo (w : World) (t : List Nat) (P : Nat) (i n : Value) (w' : World) : Prop := ∃ k : Nat, k ≤ P ∧ (t.length ≤ k ∨ k = P) ∧ i = .int .i64 (k : Int) ∧ n = .int .u64 ((dv (t.take k) * 10 ^ (k - t.length) : Nat) : Int) ∧ w' = w
set_option maxRecDepth 100000 in
set_option maxHeartbeats 4000000 in
theorem RoundedInteger_any {w : World} {b : Nat} {t : List Nat} {dp : Int} {ng : Bool} (H : DcT w b t dp ng) (hn : Nrm t) (hdp : -2000 ≤ dp ∧ dp ≤ 17) :
    Calls Tryz.prog 179 #[.pointer (some ⟨b, 0, none⟩)] w fun e w' => e = .returned (.int .u64 ((rintZ t dp : Nat) : Int)) ∧ w' = w := by
  obtain ⟨f, hD, hB⟩ := H
  have cp := hD.cp
  have cn := hD.cn
  have hR := hid fun p hp => sru_any hD hB hn p hp
  have hL := hn.len
  by_cases h0 : dp < 0
  · have e1 : ¬ (20 : Int) < dp := by omega
    have e2 : ¬ (0 : Int) < dp := by omega
    have hz : Hid (rintZ t dp = 0) := hid (by unfold rintZ; rw [if_pos h0])
    have hR2 : Hid (Calls Tryz.prog 192 #[.pointer (some ⟨b, 0, none⟩), .int .i64 dp] w fun e w' => e = .returned (.bool false) ∧ w' = w) := hid (by
      have := hR.out dp (by omega)
      rwa [if_pos h0] at this)
    obtain ⟨z, hze⟩ : ∃ z, z = rintZ t dp := ⟨_, rfl⟩
    rw [← hze] at hz ⊢
    clear hR hn hB hD hze
    go_enter Tryz.func179, Tryz.ntmps179
    go_wp2
    go_loopw [3, 4] (fun i n w' => i = .int .i64 0 ∧ n = .int .u64 0 ∧ w' = w) (fun _ _ _ => 0)
    case atStart => exact ⟨rfl, rfl, rfl⟩
    case round =>
      obtain ⟨rfl, rfl, rfl⟩ := hrel
      go_wp2
      go_loopw [3, 4] (fun i n w' => i = .int .i64 0 ∧ n = .int .u64 0 ∧ w' = wr) (fun _ _ _ => 0)
      case atStart => exact ⟨rfl, rfl, rfl⟩
      case round =>
        obtain ⟨rfl, rfl, rfl⟩ := hrel
        go_wp2_with (first
          | (go_at_call 192; (with_reducible refine hR2.out.mono ?_); rintro E1 w9 ⟨rfl, rfl⟩))
        go_ret
        exact ⟨by rw [hz.out]; rfl, rfl⟩
  · obtain ⟨P, rfl⟩ : ∃ P : Nat, dp = P := ⟨dp.toNat, by omega⟩
    have hP17 : P ≤ 17 := by omega
    have e1 : ¬ (20 : Int) < (P : Int) := by omega
    obtain ⟨u, hu⟩ : ∃ u, u = rup t P := ⟨_, rfl⟩
    have hz : Hid (rintZ t (P : Int) = dv (t.take P) * 10 ^ (P - t.length) + (if u = true then 1 else 0)) := hid (by unfold rintZ rint; rw [if_neg h0, Int.toNat_natCast, hu])
    have hR2 : Hid (Calls Tryz.prog 192 #[.pointer (some ⟨b, 0, none⟩), .int .i64 (P : Int)] w fun e w' => e = .returned (.bool u) ∧ w' = w) := hid (by
      have := hR.out (P : Int) (by omega)
      rwa [if_neg h0, Int.toNat_natCast, ← hu] at this)
    obtain ⟨z, hze⟩ : ∃ z, z = rintZ t (P : Int) := ⟨_, rfl⟩
    rw [← hze] at hz ⊢
    have hn' := hid hn
    have hB' := hid hB
    obtain ⟨L, hLe⟩ : ∃ L, L = t.length := ⟨_, rfl⟩
    rw [← hLe] at hL cn
    replace hLe := hid hLe
    have hlt : Hid (∀ i, i ≤ 17 → dv (t.take i) * 10 ^ (i - t.length) < 100000000000000000) := hid fun i hi => Nat.lt_of_lt_of_le (int_lt hn i) (Nat.le_trans (Nat.pow_le_pow_right (by decide) hi) (by decide))
    clear hR hn hB hze hu h0
    go_enter Tryz.func179, Tryz.ntmps179
    go_upto_block 0 with (fail)
    go_cut [3, 4] from 10 to 36 (fun i n w' => RiTwo w t P i n w')
    case first =>
      go_wp2
      go_loopw [3, 4] (fun i n w' => RiOne w t P i n w') (fun i _ _ => P + 1 - (intOf i).toNat)
      case atStart => exact ⟨0, by omega, by omega, rfl, rfl, rfl⟩
      case round =>
        obtain ⟨k, hkP, hkt, rfl, rfl, rfl⟩ := hrel
        have hLo := hLe.out
        have hn17 := hlt.out k (by omega)
        rw [show k - t.length = 0 by omega, Nat.pow_zero, Nat.mul_one] at hn17
        obtain ⟨n, hne⟩ : ∃ n, n = dv (t.take k) := ⟨_, rfl⟩
        rw [← hne] at hn17 ⊢
        replace hne := hid hne
        by_cases h1 : k < P
        · have g1 : (k : Int) < (P : Int) := by omega
          by_cases h2 : k < L
          · have g2 : (k : Int) < (L : Int) := by omega
            have cd := hD.cd (k := k) (by omega)
            rw [hB'.out.get (k := k) (by omega)] at cd
            have hcl : t.getD k 0 < 10 := by
              rw [List.getD_eq_getElem?_getD, List.getElem?_eq_getElem (by omega)]
              exact hn'.out.lt _ (List.getElem_mem _)
            have hsn : Hid (dv (t.take (k + 1)) = n * 10 + t.getD k 0) := hid (by rw [take_dv t (by omega), ← hne.out])
            obtain ⟨c0, hc0⟩ : ∃ c0, c0 = t.getD k 0 := ⟨_, rfl⟩
            rw [← hc0] at cd hcl hsn
            obtain ⟨c, hc⟩ : ∃ c, c = 48 + c0 := ⟨_, rfl⟩
            rw [← hc] at cd
            have c1 : (48 : Int) ≤ (c : Int) := by omega
            have c2 : (c : Int) ≤ 57 := by omega
            have i8 : (k : Int) < 800 := by omega
            have hcc := hid hc
            clear hc hc0 hcl hLo
            go_wp2
            go_roundw
            case rel =>
              have := hLe.out
              exact ⟨k + 1, h1, by omega, by go_num, by rw [hsn.out]; have := hcc.out; go_num, rfl⟩
            case measure => simp [intOf] <;> omega
          · have g2 : ¬ (k : Int) < (L : Int) := by omega
            have hkL := hid (show t.length ≤ k by omega)
            clear hLo
            go_wp2
            go_meet
            exact ⟨k, hkP, .inl hkL.out, rfl, by rw [hne.out, show k - t.length = 0 by have := hkL.out; omega, Nat.pow_zero, Nat.mul_one], rfl⟩
        · have g1 : ¬ (k : Int) < (P : Int) := by omega
          have hkt' := hid hkt
          clear hLo
          go_wp2
          go_meet
          exact ⟨k, hkP, .inr (by omega), rfl, by rw [hne.out, show k - t.length = 0 by have := hkt'.out; omega, Nat.pow_zero, Nat.mul_one], rfl⟩
    case rest =>
      obtain ⟨k0, hk0, hk1, rfl, rfl, rfl⟩ := hcut
      have hk1' := hid hk1
      clear hk1
      go_wp2
      go_loopw [3, 4] (fun i n w' => RiTwo wc t P i n w') (fun i _ _ => P + 1 - (intOf i).toNat)
      case atStart => exact ⟨k0, hk0, hk1'.out, rfl, rfl, rfl⟩
      case round =>
        obtain ⟨k, hkP, hkt, rfl, rfl, rfl⟩ := hrel
        have hkt' := hid hkt
        have hn17 := hlt.out k (by omega)
        obtain ⟨n, hne⟩ : ∃ n, n = dv (t.take k) * 10 ^ (k - t.length) := ⟨_, rfl⟩
        rw [← hne] at hn17 ⊢
        replace hne := hid hne
        clear hkt
        by_cases h1 : k < P
        · have g1 : (k : Int) < (P : Int) := by omega
          have hkL := hid (show t.length ≤ k by have := hkt'.out; omega)
          go_wp2
          go_roundw
          case rel =>
            exact ⟨k + 1, h1, .inl (by have := hkL.out; omega), by go_num, by
              rw [List.take_of_length_le (by have := hkL.out; omega), show k + 1 - t.length = k - t.length + 1 by have := hkL.out; omega, Nat.pow_succ, ← Nat.mul_assoc]
              have := hne.out
              rw [List.take_of_length_le hkL.out] at this
              rw [← this]
              go_num, rfl⟩
          case measure => simp [intOf] <;> omega
        · have g1 : ¬ (k : Int) < (P : Int) := by omega
          have hkP' : Hid (k = P) := hid (by omega)
          have hzz : Hid (z = n + (if u = true then 1 else 0)) := hid (by rw [hz.out, hne.out, hkP'.out])
          cases u
          all_goals
            go_wp2_with (first
              | (go_at_call 192; (with_reducible refine hR2.out.mono ?_); rintro E1 w9 ⟨rfl, rfl⟩))
            go_ret
            exact ⟨by rw [hzz.out]; rfl, rfl⟩
set_option maxRecDepth 100000 in
set_option maxHeartbeats 4000000 in
theorem shift_r {w : World} {b : Nat} {t : List Nat} {dp : Int} {ng : Bool} (H : DcT w b t dp ng) (hn : Nrm t) (k : Nat) (hk1 : 1 ≤ k) (hk : k ≤ 60) (hdp : -2000 ≤ dp ∧ dp ≤ 2000)
    (hroom : ∀ r, 2 ^ k * 10 ^ t.length ≤ dv t * 10 ^ r → r = 0 ∨ dv t * 10 ^ (r - 1) < 2 ^ k * 10 ^ t.length → t.length + k + 1 ≤ 800 + r) :
    Calls Tryz.prog 178 #[.pointer (some ⟨b, 0, none⟩), .int .i64 (-(k : Int))] w (RetRs w b t dp ng k) := by
  obtain ⟨f, hD, hB⟩ := H
  have hR := hid (rightShift_any hD hB hn k hk1 hk hdp hroom)
  have cn := hD.cn
  have hp := hn.pos
  have e1 : ((t.length : Int) == 0) = false := beq_eq_false_iff_ne.2 (by omega)
  have e2 : ¬ (0 : Int) < -(k : Int) := by omega
  have e3 : -(k : Int) < 0 := by omega
  have e4 : ¬ -(k : Int) < -60 := by omega
  obtain ⟨L, hLe⟩ : ∃ L, L = t.length := ⟨_, rfl⟩
  rw [← hLe] at cn e1
  clear hD hB hn hroom hLe hp
  go_enter Tryz.func178, Tryz.ntmps178
  go_wp2
  go_loopw [1] (fun i w' => i = .int .i64 (-(k : Int)) ∧ w' = w) (fun _ _ => 0)
  case atStart => exact ⟨rfl, rfl⟩
  case round =>
    obtain ⟨rfl, rfl⟩ := hrel
    go_wp2_with (first
      | (go_at_call 191; (with_reducible refine hR.out.mono ?_); rintro E1 w9 ⟨rfl, h1, h2⟩))
    go_end0
    exact ⟨rfl, h1, h2⟩
set_option maxRecDepth 100000 in
set_option maxHeartbeats 4000000 in
theorem shift_l {w : World} {b cb co : Nat} {t : List Nat} {dp : Int} {ng : Bool} (H : DcT w b t dp ng) (hn : Nrm t) (k : Nat) (hk1 : 1 ≤ k) (hk : k ≤ 60) (hdp : -2000 ≤ dp ∧ dp ≤ 2000)
    (hroom : t.length + chD k ≤ 800) (hT : CTab w cb co) :
    Calls Tryz.prog 178 #[.pointer (some ⟨b, 0, none⟩), .int .i64 (k : Int)] w (RetLs w b t dp ng k) := by
  obtain ⟨f, hD, hB⟩ := H
  have hR := hid (leftShift_any hD hB hn k hk1 hk hdp hroom hT)
  have cn := hD.cn
  have hp := hn.pos
  have e1 : ((t.length : Int) == 0) = false := beq_eq_false_iff_ne.2 (by omega)
  have e2 : (0 : Int) < (k : Int) := by omega
  have e4 : ¬ (60 : Int) < (k : Int) := by omega
  obtain ⟨L, hLe⟩ : ∃ L, L = t.length := ⟨_, rfl⟩
  rw [← hLe] at cn e1
  clear hD hB hn hroom hLe hT hp
  go_enter Tryz.func178, Tryz.ntmps178
  go_wp2
  go_loopw [1] (fun i w' => i = .int .i64 (k : Int) ∧ w' = w) (fun _ _ => 0)
  case atStart => exact ⟨rfl, rfl⟩
  case round =>
    obtain ⟨rfl, rfl⟩ := hrel
    go_wp2_with (first
      | (go_at_call 190; (with_reducible refine hR.out.mono ?_); rintro E1 w9 ⟨rfl, h1, h2⟩))
    go_end0
    exact ⟨rfl, h1, h2⟩
/-- Two shifts to the right, one behind the other. -/
theorem rs_two {t t1 t2 : List Nat} {a c : Nat} {e e1 e2 : Int} (h1 : Eqv (dv t) e (dv t1 * 2 ^ a) e1) (h2 : Eqv (dv t1) e1 (dv t2 * 2 ^ c) e2) : Eqv (dv t) e (dv t2 * 2 ^ (a + c)) e2 := by
  have := h1.trans (h2.mul (2 ^ a))
  rwa [Nat.mul_assoc, ← Nat.pow_add, Nat.add_comm c] at this
theorem rs_dp {t t1 : List Nat} {k : Nat} {dp dp1 : Int} (hn : Nrm t) (hn1 : Nrm t1) (h : Eqv (dv t) (dp - t.length) (dv t1 * 2 ^ k) (dp1 - t1.length)) : dp1 ≤ dp ∧ dp - k - 1 ≤ dp1 := by
  have p1 := hn.pos
  have p2 := hn1.pos
  constructor
  · apply Int.not_lt.1
    intro hlt
    have h2 := h.symm.lt (g := 1) (h := 1) (x := t1.length - 1) (y := t.length) (p := (dp1 - 1 - dp).toNat) (q := 0) (Nat.le_trans (lo1 hn1) (Nat.le_mul_of_pos_right _ (Nat.two_pow_pos _))) (hi1 hn) (by omega)
    have := pw10 (dp1 - 1 - dp).toNat
    omega
  · apply Int.not_lt.1
    intro hlt
    have h2 := h.lt (g := 1) (h := 2 ^ k) (x := t.length - 1) (y := t1.length) (p := (dp - 1 - dp1).toNat) (q := 0) (lo1 hn) (by rw [Nat.mul_comm]; exact Nat.mul_lt_mul_of_pos_left hn1.hi (Nat.two_pow_pos _)) (by omega)
    rw [Nat.one_mul, Nat.pow_zero, Nat.mul_one] at h2
    have h3 : 2 ^ k ≤ 10 ^ k := Nat.pow_le_pow_left (by decide) k
    have h4 : 10 ^ k ≤ 10 ^ (dp - 1 - dp1).toNat := Nat.pow_le_pow_right (by decide) (by omega)
    omega
def SrLoop (w : World) (b : Nat) (t : List Nat) (dp : Int) (ng : Bool) (k : Nat) (i : Value) (w' : World) : Prop := (i = .int .i64 (-(k : Int)) ∧ w' = w) ∨ (i = .int .i64 (-((k - 60 : Nat) : Int)) ∧ ∃ t1 dp1, DcT w' b t1 dp1 ng ∧ Nrm t1 ∧ t1.getLast? ≠ some 0 ∧ Eqv (dv t) (dp - t.length) (dv t1 * 2 ^ 60) (dp1 - t1.length) ∧ w.grownBy w' (some b))
set_option maxRecDepth 100000 in
set_option maxHeartbeats 4000000 in
theorem shift_r2 {w : World} {b : Nat} {t : List Nat} {dp : Int} {ng : Bool} (H : DcT w b t dp ng) (hn : Nrm t) (k : Nat) (hk1 : 61 ≤ k) (hk : k ≤ 120) (hdp : -1000 ≤ dp ∧ dp ≤ 1000)
    (hroom : t.length + k + 2 ≤ 800) :
    Calls Tryz.prog 178 #[.pointer (some ⟨b, 0, none⟩), .int .i64 (-(k : Int))] w (RetRs w b t dp ng k) := by
  obtain ⟨f, hD, hB⟩ := H
  have hR : Hid (Calls Tryz.prog 191 #[.pointer (some ⟨b, 0, none⟩), .int .u64 60] w (RetRs w b t dp ng 60)) := hid (rightShift_any hD hB hn 60 (by omega) (by omega) (by omega) (fun _ _ _ => by omega))
  have cn := hD.cn
  have hp := hn.pos
  have e1 : ((t.length : Int) == 0) = false := beq_eq_false_iff_ne.2 (by omega)
  have e2 : ¬ (0 : Int) < -(k : Int) := by omega
  have e3 : -(k : Int) < 0 := by omega
  obtain ⟨L, hLe⟩ : ∃ L, L = t.length := ⟨_, rfl⟩
  rw [← hLe] at cn e1
  have hn' := hid hn
  have hr' := hid hroom
  clear hD hB hn hroom hLe hp
  go_enter Tryz.func178, Tryz.ntmps178
  go_wp2
  clear cn e1 e2 e3
  go_loopw [1] (fun i w' => SrLoop w b t dp ng k i w') (fun i _ => (- intOf i).toNat)
  case atStart => exact .inl ⟨rfl, rfl⟩
  case round =>
    rcases hrel with ⟨rfl, rfl⟩ | ⟨rfl, t1, dp1, hD1, hn1, hl1, hE1, hG1⟩
    · have e4 : -(k : Int) < -60 := by omega
      go_wp2_with (first
        | (go_at_call 191; (with_reducible refine hR.out.mono ?_); rintro E1 w9 ⟨rfl, ⟨t1, dp1, h1, h2, h3, h4⟩, h5⟩))
      go_roundw
      case rel => exact .inr ⟨by go_num, t1, dp1, h1, h2, h3, h4, h5⟩
      case measure => simp [intOf] <;> omega
    · have e4 : ¬ -((k - 60 : Nat) : Int) < -60 := by omega
      obtain ⟨f1, hD1', hB1⟩ := hD1
      have hfr := frac_r hn1 hl1 hE1
      have hdp1 := rs_dp hn'.out hn1 hE1
      have hr := hr'.out
      have hR1 := hid (rightShift_any hD1' hB1 hn1 (k - 60) (by omega) (by omega) (by omega) (fun _ _ _ => by omega))
      obtain ⟨j, hj⟩ : ∃ j, j = k - 60 := ⟨_, rfl⟩
      rw [← hj] at hR1 e4 ⊢
      have hE1' := hid hE1
      have hG1' := hid hG1
      have hj' : Hid (60 + j = k) := hid (by omega)
      have hj60 : j ≤ 60 := by omega
      clear hfr hdp1 hr hj hE1 hG1 hl1
      go_wp2_with (first
        | (go_at_call 191; (with_reducible refine hR1.out.mono ?_); rintro E1 w9 ⟨rfl, ⟨t2, dp2, h1, h2, h3, h4⟩, h5⟩))
      go_end0
      refine ⟨rfl, ⟨t2, dp2, h1, h2, h3, ?_⟩, gr_trans hG1'.out h5⟩
      have := rs_two hE1'.out h4
      rwa [hj'.out] at this
end Go.Proofs.YtfalbdlfopfgcaaGreatDoor
