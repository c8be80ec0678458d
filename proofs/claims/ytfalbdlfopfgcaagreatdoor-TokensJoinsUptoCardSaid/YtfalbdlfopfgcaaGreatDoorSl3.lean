/- internal/strconv.rightShift: the walk. Conditions: the decimal lies there, a shift from 1 to 60, room for the digits. -/
import Derived.Test.YtfalbdlfopfgcaaGreatDoorSkM
import Derived.Deep.CutBlock
namespace Go.Proofs.YtfalbdlfopfgcaaGreatDoor
open Go.RowKit

/-- What is picked up ahead of the first digit that is put down. -/
structure RsHd (k : Nat) (t : List Nat) (r n : Nat) : Prop where
  z : ∃ z, n * 10 ^ (t.drop r).length + dv (t.drop r) = dv t * 10 ^ z ∧ r + (t.drop r).length = t.length + z
  lo : 2 ^ k ≤ n
  hi : n < 10 * 2 ^ k
  r1 : 1 ≤ r
  m : dv t * 10 ^ (r - 1) < 2 ^ k * 10 ^ t.length
  u : 2 ^ k * 10 ^ t.length ≤ dv t * 10 ^ r
theorem take_dv (t : List Nat) {r : Nat} (hr : r < t.length) : dv (t.take (r + 1)) = dv (t.take r) * 10 + t.getD r 0 := by
  have e : t.take (r + 1) = t.take r ++ [t.getD r 0] := by
    rw [List.take_add_one, List.getElem?_eq_getElem hr, List.getD_eq_getElem?_getD, List.getElem?_eq_getElem hr]
    rfl
  rw [e, dv_app]
  simp [dv]
theorem split_dv (t : List Nat) (r : Nat) : dv t = dv (t.take r) * 10 ^ (t.length - r) + dv (t.drop r) := by
  conv => lhs; rw [← List.take_append_drop r t]
  rw [dv_app, List.length_drop]
theorem rsHd_a {k r : Nat} {t : List Nat} (hn : Nrm t) (hr : r ≤ t.length) (h0 : r = 0 ∨ dv (t.take (r - 1)) < 2 ^ k) (hlo : 2 ^ k ≤ dv (t.take r)) : RsHd k t r (dv (t.take r)) := by
  have hr1 : 1 ≤ r := by
    apply Nat.pos_of_ne_zero
    rintro rfl
    have := Nat.two_pow_pos k
    simp [dv] at hlo
  have h1 : dv (t.take (r - 1)) < 2 ^ k := h0.resolve_left (by omega)
  have hc : t.getD (r - 1) 0 < 10 := by
    rw [List.getD_eq_getElem?_getD, List.getElem?_eq_getElem (by omega)]
    exact hn.lt _ (List.getElem_mem _)
  have h2 := take_dv t (r := r - 1) (by omega)
  rw [show r - 1 + 1 = r by omega] at h2
  have hs := split_dv t r
  have hs1 := split_dv t (r - 1)
  refine ⟨⟨0, ?_, by rw [List.length_drop]; omega⟩, hlo, by omega, hr1, ?_, ?_⟩
  · rw [List.length_drop, Nat.pow_zero, Nat.mul_one, ← hs]
  · have h3 := dv_lt (t.drop (r - 1)) fun c hc => hn.lt c (List.mem_of_mem_drop hc)
    rw [List.length_drop] at h3
    have h4 : dv t < 2 ^ k * 10 ^ (t.length - (r - 1)) := by
      have := Nat.mul_le_mul_right (10 ^ (t.length - (r - 1))) (show dv (t.take (r - 1)) + 1 ≤ 2 ^ k from h1)
      rw [Nat.succ_mul] at this
      omega
    have h5 := Nat.mul_lt_mul_of_pos_right h4 (pw10 (r - 1))
    rwa [Nat.mul_assoc, ← Nat.pow_add, show t.length - (r - 1) + (r - 1) = t.length by omega] at h5
  · have h3 : 2 ^ k * 10 ^ (t.length - r) ≤ dv t := by
      have := Nat.mul_le_mul_right (10 ^ (t.length - r)) hlo
      omega
    have h5 := Nat.mul_le_mul_right (10 ^ r) h3
    rwa [Nat.mul_assoc, ← Nat.pow_add, show t.length - r + r = t.length by omega] at h5
theorem rsHd_b {k j : Nat} {t : List Nat} (hj : 1 ≤ j) (h0 : dv t * 10 ^ (j - 1) < 2 ^ k) (hlo : 2 ^ k ≤ dv t * 10 ^ j) : RsHd k t (t.length + j) (dv t * 10 ^ j) := by
  refine ⟨⟨j, ?_, ?_⟩, hlo, ?_, by omega, ?_, ?_⟩
  · rw [List.drop_eq_nil_of_le (by omega)]
    simp [dv]
  · rw [List.drop_eq_nil_of_le (by omega)]
    simp
  · obtain ⟨j', rfl⟩ : ∃ j', j = j' + 1 := ⟨j - 1, by omega⟩
    rw [Nat.pow_succ, ← Nat.mul_assoc]
    rw [Nat.add_sub_cancel] at h0
    omega
  · rw [show t.length + j - 1 = (j - 1) + t.length by omega, Nat.pow_add, ← Nat.mul_assoc]
    exact Nat.mul_lt_mul_of_pos_right h0 (pw10 _)
  · rw [show t.length + j = j + t.length by omega, Nat.pow_add, ← Nat.mul_assoc]
    exact Nat.mul_le_mul_right _ hlo
theorem shr_0 {m k : Nat} (h : m < 2 ^ k) : ((m : Int) / 2 ^ k == 0) = true := by
  have e : (m : Int) / 2 ^ k = ((m / 2 ^ k : Nat) : Int) := by push_cast; rfl
  rw [e, Nat.div_eq_of_lt h]
  rfl
theorem shr_1 {m k : Nat} (h : ¬ m < 2 ^ k) : ((m : Int) / 2 ^ k == 0) = false := by
  have e : (m : Int) / 2 ^ k = ((m / 2 ^ k : Nat) : Int) := by push_cast; rfl
  have h2 := (Nat.le_div_iff_mul_le (Nat.two_pow_pos k)).2 (show 1 * 2 ^ k ≤ m by omega)
  rw [e, beq_eq_false_iff_ne]
  omega
theorem j_le {t : List Nat} {k j : Nat} (hk : k ≤ 60) (h : dv t * 10 ^ j < 2 ^ k) (h0 : 0 < dv t) : j + 1 ≤ 61 := by
  have h1 : 2 ^ j ≤ 10 ^ j := Nat.pow_le_pow_left (by decide) j
  have h2 : 1 * 10 ^ j ≤ dv t * 10 ^ j := Nat.mul_le_mul_right _ h0
  have h3 := (Nat.pow_lt_pow_iff_right (a := 2) (by decide)).1 (show 2 ^ j < 2 ^ k by omega)
  omega
theorem last_ten {t : List Nat} (h : ∀ c ∈ t, c < 10) (hne : t ≠ []) (h0 : dv t % 10 = 0) : t.getLast? = some 0 := by
  have e : t = t.dropLast ++ [t.getLast hne] := (List.dropLast_concat_getLast hne).symm
  have hc := h _ (List.getLast_mem hne)
  rw [e, dv_app] at h0
  simp only [dv, List.length_singleton, List.length_nil] at h0
  rw [List.getLast?_eq_some_getLast hne]
  congr 1
  omega
/-- A shift to the right by k makes at most k digits more behind the point. -/
theorem frac_r {t t' : List Nat} {k : Nat} {e e' : Int} (hn : Nrm t') (hl : t'.getLast? ≠ some 0) (h : Eqv (dv t) e (dv t' * 2 ^ k) e') : -e' ≤ -e + k := by
  apply Int.not_lt.1
  intro hlt
  apply hl
  apply last_ten hn.lt hn.ne
  obtain ⟨c, hc⟩ : ∃ c : Nat, (c : Int) = -e' + e - k - 1 := ⟨(-e' + e - k - 1).toNat, by omega⟩
  have h1 := h (c + k + 1) 0 (by omega)
  rw [Nat.pow_zero, Nat.mul_one, Nat.pow_add, Nat.pow_add, Nat.pow_one, ten_pow k] at h1
  have h2 : dv t' = 10 * (dv t * 10 ^ c * 5 ^ k) := by
    apply Nat.eq_of_mul_eq_mul_right (Nat.two_pow_pos k)
    rw [← h1]
    generalize dv t = x
    generalize 10 ^ c = y
    generalize 5 ^ k = z
    generalize 2 ^ k = u
    grind
  rw [h2, Nat.mul_mod_right]
/-- A shift to the left makes none more. -/
theorem frac_l {t t' : List Nat} {k : Nat} {e e' : Int} (hn : Nrm t') (hl : t'.getLast? ≠ some 0) (h : Eqv (dv t * 2 ^ k) e (dv t') e') : -e' ≤ -e := by
  apply Int.not_lt.1
  intro hlt
  apply hl
  apply last_ten hn.lt hn.ne
  obtain ⟨c, hc⟩ : ∃ c : Nat, (c : Int) = -e' + e - 1 := ⟨(-e' + e - 1).toNat, by omega⟩
  have h1 := h (c + 1) 0 (by omega)
  rw [Nat.pow_zero, Nat.mul_one, Nat.pow_succ, ← Nat.mul_assoc] at h1
  rw [← h1, Nat.mul_mod_left]
def RsOuter (w : World) (k : Nat) (t : List Nat) (r n : Value) (w' : World) : Prop := ∃ i : Nat, i ≤ t.length ∧ r = .int .i64 (i : Int) ∧ n = .int .u64 ((dv (t.take i) : Nat) : Int) ∧ (i = 0 ∨ dv (t.take (i - 1)) < 2 ^ k) ∧ dv (t.take i) < 10 * 2 ^ k ∧ w' = w
def RsInner (w : World) (k : Nat) (t : List Nat) (r n : Value) (w' : World) : Prop := ∃ j : Nat, j ≤ 61 ∧ r = .int .i64 ((t.length + j : Nat) : Int) ∧ n = .int .u64 ((dv t * 10 ^ j : Nat) : Int) ∧ (j = 0 ∧ dv t < 2 ^ k ∨ 1 ≤ j ∧ dv t * 10 ^ (j - 1) < 2 ^ k) ∧ dv t * 10 ^ j < 10 * 2 ^ k ∧ w' = w
def RsPut (w : World) (b : Nat) (f : Nat → Nat) (k i m : Nat) (rest : List Nat) (L : Nat) (dp : Int) (ng : Bool) (r x n : Value) (w' : World) : Prop := ∃ (j : Nat) (f' : Nat → Nat), j ≤ rest.length ∧ r = .int .i64 ((i + j : Nat) : Int) ∧ x = .int .i64 (j : Int) ∧ n = .int .u64 (((rsOut k m (rest.take j)).2 : Nat) : Int) ∧ DcAt w' b f' L dp ng false ∧ Byt f' 0 (rsOut k m (rest.take j)).1 ∧ (∀ q, i + j ≤ q → f' q = f q) ∧ w.grownBy w' (some b)
def RsZ (w : World) (b k m : Nat) (rest : List Nat) (L : Nat) (dp : Int) (ng : Bool) (x n : Value) (w' : World) : Prop := ∃ (j : Nat) (f' : Nat → Nat), j ≤ k + 1 ∧ x = .int .i64 ((rest.length + j : Nat) : Int) ∧ n = .int .u64 (((rsOut k m (rest ++ List.replicate j 0)).2 : Nat) : Int) ∧ DcAt w' b f' L dp ng false ∧ Byt f' 0 (rsOut k m (rest ++ List.replicate j 0)).1 ∧ w.grownBy w' (some b)
/-- What a shift to the right leaves: digits whose number, times 2^k, is the number that stood there. -/
def RetRs (w : World) (b : Nat) (t : List Nat) (dp : Int) (ng : Bool) (k : Nat) (E : Ending) (w' : World) : Prop := E = .returned (.tuple #[]) ∧ (∃ t' dp', DcT w' b t' dp' ng ∧ Nrm t' ∧ t'.getLast? ≠ some 0 ∧ Eqv (dv t) (dp - t.length) (dv t' * 2 ^ k) (dp' - t'.length)) ∧ w.grownBy w' (some b)
theorem two_int {g k : Nat} (h : g = 2 ^ k) : (g : Int) = 2 ^ k := by rw [h]; push_cast; rfl
theorem Byt.snoc {f : Nat → Nat} {o : Nat} {t : List Nat} {c v : Nat} (h : Byt f o t) (hv : v = 48 + c) : Byt (fun z => if z = o + t.length then v else f z) o (t ++ [c]) := fun z x hz => by
  by_cases hzl : z < t.length
  · rw [List.getElem?_append_left hzl] at hz
    show (if o + z = o + t.length then v else f (o + z)) = _
    rw [if_neg (by omega)]
    exact h z x hz
  · rw [List.getElem?_append_right (by omega)] at hz
    have hz0 : z - t.length = 0 := by
      have := (List.getElem?_eq_some_iff.1 hz).1
      simp at this
      omega
    rw [hz0] at hz
    show (if o + z = o + t.length then v else f (o + z)) = _
    rw [if_pos (by omega), hv, Option.some.inj hz]
def RsMet (w : World) (k : Nat) (t : List Nat) (r n : Value) (w' : World) : Prop := ∃ i m : Nat, r = .int .i64 (i : Int) ∧ n = .int .u64 (m : Int) ∧ i ≤ 900 ∧ RsHd k t i m ∧ w' = w
set_option maxRecDepth 100000 in
set_option maxHeartbeats 4000000 in
theorem rightShift_any {w : World} {b : Nat} {f : Nat → Nat} {t : List Nat} {dp : Int} {ng : Bool} (H : DcAt w b f t.length dp ng false) (hf : Byt f 0 t) (hn : Nrm t) (k : Nat) (hk1 : 1 ≤ k) (hk : k ≤ 60) (hdp : -2000 ≤ dp ∧ dp ≤ 2000)
    (hroom : ∀ r, 2 ^ k * 10 ^ t.length ≤ dv t * 10 ^ r → r = 0 ∨ dv t * 10 ^ (r - 1) < 2 ^ k * 10 ^ t.length → t.length + k + 1 ≤ 800 + r) :
    Calls Tryz.prog 191 #[.pointer (some ⟨b, 0, none⟩), .int .u64 k] w (RetRs w b t dp ng k) := by
  have hf' := hid hf
  have hn' := hid hn
  have hL := hn.len
  have hR := hid hroom
  have hpos := hid hn.pos
  have p60 : (2 : Nat) ^ k ≤ 2 ^ 60 := Nat.pow_le_pow_right (by decide) hk
  have e60 : (2 : Nat) ^ 60 = 1152921504606846976 := by decide
  rw [e60] at p60
  clear hf hn hroom e60
  have hp0 := Nat.two_pow_pos k
  obtain ⟨g, hg⟩ : ∃ g, g = 2 ^ k := ⟨_, rfl⟩
  rw [← hg] at p60 hp0
  have hg' := hid hg
  have ki : ((k : Int)) ≤ 60 := by omega
  have cn := H.cn
  go_enter Tryz.func191, Tryz.ntmps191
  go_upto_block 0 with (fail)
  go_cut [4, 6] from 12 to 48 (fun r n w' => RsMet w k t r n w')
  case first =>
    clear hg
    go_wp2
    go_loopw [4, 6] (fun r n w' => RsOuter w k t r n w') (fun r _ _ => t.length + 1 - (intOf r).toNat)
    case atStart => exact ⟨0, Nat.zero_le _, rfl, rfl, .inl rfl, by simp [dv]; exact Nat.two_pow_pos k, rfl⟩
    case round =>
      obtain ⟨i, hi, rfl, rfl, h0, h10, rfl⟩ := hrel
      have h0' := hid h0
      obtain ⟨m, hm⟩ : ∃ m, m = dv (t.take i) := ⟨_, rfl⟩
      rw [← hm] at h10 ⊢
      have hm' := hid hm
      clear hm h0
      by_cases c1 : m < 2 ^ k
      · have e1 := shr_0 c1
        have m60 : m < 1152921504606846976 := by rw [← hg'.out] at c1; omega
        by_cases c2 : i < t.length
        · have e2 : ¬ (t.length : Int) ≤ (i : Int) := by omega
          have cd := H.cd (k := i) (by omega)
          have hb := hf'.out.get (k := i) c2
          have hcl : t.getD i 0 < 10 := by
            rw [List.getD_eq_getElem?_getD, List.getElem?_eq_getElem c2]
            exact hn'.out.lt _ (List.getElem_mem c2)
          obtain ⟨c, hc⟩ : ∃ c, c = f i := ⟨_, rfl⟩
          rw [← hc] at cd hb
          have f1 : (48 : Int) ≤ (c : Int) := by omega
          have f2 : (c : Int) ≤ 57 := by omega
          have i8 : (i : Int) < 800 := by omega
          have hnx : Hid (((m : Int) * 10 + (c : Int) - 48) = ((dv (t.take (i + 1)) : Nat) : Int)) := hid <| by
            rw [take_dv t c2, ← hm'.out]
            push_cast
            omega
          have hc1 := hid c1
          clear c1 hc hb hcl h10
          go_wp2
          go_roundw
          case rel => exact ⟨i + 1, c2, by go_num, by rw [← hnx.out], .inr (by rw [Nat.add_sub_cancel, ← hm'.out]; exact hc1.out), by have := hc1.out; have := hnx.out; omega, rfl⟩
          case measure => simp [intOf] <;> omega
        · have e2 : (t.length : Int) ≤ (i : Int) := by omega
          have hil : Hid (i = t.length) := hid (by omega)
          have hmt : Hid (m = dv t) := hid (by rw [hm'.out, List.take_of_length_le (by omega)])
          have hm0 : 0 < m := by
            rw [hmt.out]
            exact Nat.lt_of_lt_of_le (pw10 _) hn'.out.lo
          have e3 : ((m : Int) == 0) = false := by simp; omega
          have hc1 := hid c1
          clear c1 c2 h10
          go_wp2
          clear e1 e2 e3
          go_loopw [4, 6] (fun r n w' => RsInner wr k t r n w') (fun _ n _ => 10 * 2 ^ k - (intOf n).toNat)
          case atStart => exact ⟨0, by omega, by rw [hil.out]; rfl, by rw [hmt.out, Nat.pow_zero, Nat.mul_one], .inl ⟨rfl, by rw [← hmt.out]; exact hc1.out⟩, by rw [Nat.pow_zero, Nat.mul_one, ← hmt.out]; have := hc1.out; omega, rfl⟩
          case round =>
            obtain ⟨j, hj, rfl, rfl, h0j, h10j, rfl⟩ := hrel
            obtain ⟨x, hx⟩ : ∃ x, x = dv t * 10 ^ j := ⟨_, rfl⟩
            rw [← hx] at h10j ⊢
            have hx' := hid hx
            have hx0 : 0 < x := by
              rw [hx]
              refine Nat.mul_pos ?_ (pw10 j)
              rw [← hmt.out]
              exact hm0
            have h0j' := hid h0j
            have h10j' := hid h10j
            clear hx h0j h10j
            have tl : ((t.length + j : Nat) : Int) < 900 := by omega
            by_cases d1 : x < 2 ^ k
            · have e1 := shr_0 d1
              have m60 : x < 1152921504606846976 := by rw [← hg'.out] at d1; omega
              have hj2 := hid (j_le (t := t) (k := k) (j := j) hk (by rw [← hx'.out]; exact d1) (by rw [← hmt.out]; exact hm0))
              have hd1 := hid d1
              clear d1
              go_wp2
              go_roundw
              case rel => exact ⟨j + 1, hj2.out, by go_num, by rw [Nat.pow_succ, ← Nat.mul_assoc, ← hx'.out]; go_num, .inr ⟨by omega, by rw [Nat.add_sub_cancel, ← hx'.out]; exact hd1.out⟩, by rw [Nat.pow_succ, ← Nat.mul_assoc, ← hx'.out]; have := hd1.out; omega, rfl⟩
              case measure => simp [intOf]; have := hd1.out; omega
            · have e1 := shr_1 d1
              have hd1 := hid d1
              clear d1
              go_wp2
              go_meet
              refine ⟨t.length + j, x, rfl, rfl, by omega, ?_, rfl⟩
              rw [hx'.out] at hd1 ⊢
              rcases h0j'.out with ⟨rfl, h⟩ | ⟨h1, h2⟩
              · exact absurd (by rw [Nat.pow_zero, Nat.mul_one]; exact h) hd1.out
              · exact rsHd_b h1 h2 (Nat.le_of_not_lt hd1.out)
      · have e1 := shr_1 c1
        have hc1 := hid c1
        clear c1
        go_wp2
        go_meet
        refine ⟨i, m, rfl, rfl, by omega, ?_, rfl⟩
        rw [hm'.out] at hc1 ⊢
        exact rsHd_a hn'.out hi h0'.out (Nat.le_of_not_lt hc1.out)
  case rest =>
    obtain ⟨i, m, rfl, rfl, hi, hRs, rfl⟩ := hcut
    have hRs' := hid hRs
    clear hRs hg
    have cp := H.cp
    have fp := H.fr 801
    have hgi : IntKind.u64.wrap (IntKind.u64.wrap ((2 : Int) ^ k) - 1) = ((g - 1 : Nat) : Int) := by
      rw [← two_int hg'.out, IntKind.wrap_u64, IntKind.wrap_u64]
      omega
    go_upto_block 4 with (fail)
    clear hgi
    have H2 := H.setP (dp - ((i : Int) - 1))
    have G2 := gr_set (gr_refl wc (some b)) 801 (.int .i64 (dp - ((i : Int) - 1)))
    obtain ⟨w2, hw2⟩ : ∃ w2, w2 = wc.setCell ⟨b, 801, none⟩ (.int .i64 (dp - ((i : Int) - 1))) := ⟨_, rfl⟩
    rw [← hw2] at H2 G2 ⊢
    obtain ⟨dp', hdp'⟩ : ∃ dp', dp' = dp - ((i : Int) - 1) := ⟨_, rfl⟩
    rw [← hdp'] at H2
    replace hdp' := hid hdp'
    clear hw2 cn cp fp H
    have hgt := hid (show g = 2 ^ k from hg'.out)
    obtain ⟨rest, hrest⟩ : ∃ rest, rest = t.drop i := ⟨_, rfl⟩
    have hzz : Hid (∃ z, m * 10 ^ rest.length + dv rest = dv t * 10 ^ z ∧ i + rest.length = t.length + z) := hid (by rw [hrest]; exact hRs'.out.z)
    have hrl : rest.length = t.length - i := by rw [hrest, List.length_drop]
    have hrc : Hid (∀ c ∈ rest, c < 10) := hid fun c hc => hn'.out.lt c (List.mem_of_mem_drop (by rw [← hrest]; exact hc))
    have hrd : Hid (∀ j, j < rest.length → t.getD (i + j) 0 = rest.getD j 0) := hid fun j hj => by
      rw [hrest, List.getD_eq_getElem?_getD, List.getD_eq_getElem?_getD, List.getElem?_drop]
    replace hrest := hid hrest
    replace hrl := hid hrl
    have hm10 := hid hRs'.out.hi
    have hdg : Hid (∀ T : List Nat, (∀ c ∈ T, c < 10) → (∀ c ∈ (rsOut k m T).1, c < 10) ∧ (rsOut k m T).2 < 10 * 2 ^ k) := hid fun T hT => rs_dig k T m hm10.out hT
    go_wp2
    go_loopw [4, 5, 6] (fun r x n w' => RsPut wc b f k i m rest t.length dp' ng r x n w') (fun r _ _ _ => t.length + 901 - (intOf r).toNat)
    case atStart => exact ⟨0, f, Nat.zero_le _, by go_num, rfl, rfl, H2, fun q c h => absurd h (by simp [rsOut]), fun q _ => rfl, G2⟩
    case round =>
      obtain ⟨j, f2, hj, rfl, rfl, rfl, H3, B3, A3, G3⟩ := hrel
      have hsz := hrl.out
      have cn3 := H3.cn
      obtain ⟨n, hne⟩ : ∃ n, n = (rsOut k m (rest.take j)).2 := ⟨_, rfl⟩
      rw [← hne]
      have hn10 : n < 10 * g := by
        rw [hne, hgt.out]
        exact (hdg.out _ fun c hc => hrc.out c (List.mem_of_mem_take hc)).2
      have hne' := hid hne
      clear hne
      by_cases hjl : j < rest.length
      · have e1 : ((i + j : Nat) : Int) < (t.length : Int) := by omega
        have cd := H3.cd (k := i + j) (by omega)
        rw [A3 (i + j) (by omega), hf'.out.get (k := i + j) (by omega), hrd.out j hjl] at cd
        have hcl : rest.getD j 0 < 10 := by
          rw [List.getD_eq_getElem?_getD, List.getElem?_eq_getElem hjl]
          exact hrc.out _ (List.getElem_mem hjl)
        have hsn : Hid (rest.take (j + 1) = rest.take j ++ [rest.getD j 0]) := hid <| by
          rw [List.take_add_one, List.getElem?_eq_getElem hjl, List.getD_eq_getElem?_getD, List.getElem?_eq_getElem hjl]
          rfl
        obtain ⟨c, hc⟩ : ∃ c, c = 48 + rest.getD j 0 := ⟨_, rfl⟩
        rw [← hc] at cd
        obtain ⟨q, hq⟩ : ∃ q, q = n / g := ⟨_, rfl⟩
        obtain ⟨y, hy⟩ : ∃ y, y = n % g := ⟨_, rfl⟩
        have hq10 : q < 10 := by rw [hq]; exact Nat.div_lt_of_lt_mul (by rw [Nat.mul_comm]; exact hn10)
        have hyg : y < g := by rw [hy]; exact Nat.mod_lt _ hp0
        have s1 : (n : Int) / 2 ^ k = (q : Int) := by rw [← two_int hgt.out, hq]; push_cast; rfl
        have s2 : bits .and .u64 (n : Int) ((g - 1 : Nat) : Int) = (y : Int) := by
          rw [bits_and_u64_nat n (g - 1) (by omega) (by omega), hgt.out, Nat.and_two_pow_sub_one_eq_mod, hy, hgt.out]
        have f3 := H3.fr j
        have cj := H3.cd (k := j) (by omega)
        have i8 : ((i + j : Nat) : Int) < 800 := by omega
        have i9 : (j : Int) < 800 := by omega
        have c1 : (48 : Int) ≤ (c : Int) := by omega
        have c2 : (c : Int) ≤ 57 := by omega
        have hqy := hid (And.intro hq hy)
        have hcc := hid hc
        clear hq hy hc hcl hn10
        go_wp2
        go_roundw
        case rel =>
          refine ⟨j + 1, fun z => if z = j then q + 48 else f2 z, hjl, by go_num, by go_num, ?_, ?_, ?_, fun z hz => ?_, gr_set G3 _ _⟩
          · rw [hsn.out, rs_snoc, ← hne'.out, ← hgt.out, ← hqy.out.2]
            rw [show rest.getD j 0 = c - 48 by have := hcc.out; omega]
            go_num
          · have h := H3.setD (k := j) (by omega) (q + 48)
            rw [Int.natCast_add] at h
            exact h
          · rw [hsn.out, rs_snoc, ← hne'.out, ← hgt.out, ← hqy.out.1]
            have hl : (rsOut k m (rest.take j)).1.length = j := by rw [rs_len, List.length_take]; omega
            have := B3.snoc (c := q) (v := q + 48) (Nat.add_comm _ _)
            rw [hl, Nat.zero_add] at this
            exact this
          · have := hRs'.out.r1
            show (if z = j then q + 48 else f2 z) = f z
            rw [if_neg (by omega)]
            exact A3 z (by omega)
        case measure => simp [intOf] <;> omega
      · obtain rfl : j = rest.length := by omega
        have e1 : ¬ ((i + rest.length : Nat) : Int) < (t.length : Int) := by omega
        rw [List.take_length] at hne' B3
        have hrm : rest.length + k + 1 ≤ 800 := by
          have h1 := hR.out i hRs'.out.u (.inr hRs'.out.m)
          omega
        clear hsz
        go_wp2
        clear e1 cn3
        go_loopw [5, 6] (fun x n w' => RsZ wc b k m rest t.length dp' ng x n w') (fun x _ _ => rest.length + k + 10 - (intOf x).toNat)
        case atStart => exact ⟨0, f2, by omega, by go_num, by rw [List.replicate_zero, List.append_nil, ← hne'.out], H3, by rw [List.replicate_zero, List.append_nil]; exact B3, G3⟩
        case round =>
          obtain ⟨j, f4, hj, rfl, rfl, H5, B5, G5⟩ := hrel
          obtain ⟨n, hne⟩ : ∃ n, n = (rsOut k m (rest ++ List.replicate j 0)).2 := ⟨_, rfl⟩
          rw [← hne]
          have hn10 : n < 10 * g := by
            rw [hne, hgt.out]
            exact (hdg.out _ fun c hc => by
              rcases List.mem_append.1 hc with h | h
              · exact hrc.out c h
              · rw [List.eq_of_mem_replicate h]; decide).2
          have hne' := hid hne
          have hsn : Hid (rest ++ List.replicate (j + 1) 0 = rest ++ List.replicate j 0 ++ [0]) := hid <| by
            rw [List.append_assoc, ← List.replicate_succ']
          by_cases h0 : n = 0
          · have e1 : ¬ (0 : Int) < (n : Int) := by omega
            have hl : Hid ((rsOut k m (rest ++ List.replicate j 0)).1.length = rest.length + j) := hid <| by rw [rs_len, List.length_append, List.length_replicate]
            obtain ⟨z, hz1, hz2⟩ := hzz.out
            have hal := hid (rs_all hrc.out hz1 hz2 hRs'.out.lo hRs'.out.hi (by rw [← hne]; exact h0) (by omega) dp)
            have cn5 := H5.cn
            have fn5 := H5.fr 800
            have H6 : DcAt (wr.setCell ⟨b, 800, none⟩ (.int .i64 ((rest.length + j : Nat) : Int))) b f4 (rsOut k m (rest ++ List.replicate j 0)).1.length dp' ng false := by rw [hl.out]; exact H5.setN (rest.length + j)
            have G6 := gr_set G5 800 (.int .i64 ((rest.length + j : Nat) : Int))
            have HT0 := trim_any H6 B5 hal.out.1
            rw [Int.natCast_add] at HT0 G6
            have HT := hid HT0
            have G6' := hid G6
            clear hne h0 hn10 hz1 hz2 H6 G6 HT0
            go_wp2_with (first
              | (go_at_call 194; (with_reducible refine HT.out.mono ?_); rintro E1 w9 ⟨rfl, ⟨t', hT, hD'⟩, hG'⟩))
            go_end0
            refine ⟨rfl, ⟨t', dp', hD', hT.nrm hal.out.1, hT.last, ?_⟩, gr_trans G6'.out hG'⟩
            have h1 := hal.out.2
            rw [show dp - (i : Int) + 1 = dp' by have := hdp'.out; omega] at h1
            exact h1.trans ((hT.eqv dp').mul (2 ^ k))
          · have e1 : (0 : Int) < (n : Int) := by omega
            have hjk : j ≤ k := by
              apply Nat.le_of_not_lt
              intro hlt
              apply h0
              have e : j = k + 1 := by omega
              rw [hne, e, rs_app, rs_ends]
            obtain ⟨q, hq⟩ : ∃ q, q = n / g := ⟨_, rfl⟩
            obtain ⟨y, hy⟩ : ∃ y, y = n % g := ⟨_, rfl⟩
            have hq10 : q < 10 := by rw [hq]; exact Nat.div_lt_of_lt_mul (by rw [Nat.mul_comm]; exact hn10)
            have hyg : y < g := by rw [hy]; exact Nat.mod_lt _ hp0
            have s1 : (n : Int) / 2 ^ k = (q : Int) := by rw [← two_int hgt.out, hq]; push_cast; rfl
            have s2 : bits .and .u64 (n : Int) ((g - 1 : Nat) : Int) = (y : Int) := by
              rw [bits_and_u64_nat n (g - 1) (by omega) (by omega), hgt.out, Nat.and_two_pow_sub_one_eq_mod, hy, hgt.out]
            have f3 := H5.fr (rest.length + j)
            have cj := H5.cd (k := rest.length + j) (by omega)
            have i9 : ((rest.length + j : Nat) : Int) < 800 := by omega
            have hqy := hid (And.intro hq hy)
            clear hq hy hn10 hne h0
            go_wp2
            go_roundw
            case rel =>
              refine ⟨j + 1, fun z => if z = rest.length + j then q + 48 else f4 z, by omega, by go_num, ?_, ?_, ?_, gr_set G5 _ _⟩
              · rw [hsn.out, rs_snoc, ← hne'.out, ← hgt.out, ← hqy.out.2]
                go_num
              · have h := H5.setD (k := rest.length + j) (by omega) (q + 48)
                rw [Int.natCast_add] at h
                exact h
              · rw [hsn.out, rs_snoc, ← hne'.out, ← hgt.out, ← hqy.out.1]
                have hl : (rsOut k m (rest ++ List.replicate j 0)).1.length = rest.length + j := by rw [rs_len, List.length_append, List.length_replicate]
                have := B5.snoc (c := q) (v := q + 48) (Nat.add_comm _ _)
                rw [hl, Nat.zero_add] at this
                exact this
            case measure => simp [intOf] <;> omega
end Go.Proofs.YtfalbdlfopfgcaaGreatDoor

