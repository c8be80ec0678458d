/- internal/strconv.special at a text behind a minus; atof64 in general: the nearest word. Conditions: the text is digits with at most one point, an e, an exponent's digits; the tables lie there. -/
import Derived.Test.YtfalbdlfopfgcaaGreatDoorSp
import Derived.Test.YtfalbdlfopfgcaaGreatDoorSo

namespace Go.Proofs.YtfalbdlfopfgcaaGreatDoor
open Go.RowKit

set_option maxRecDepth 100000 in
set_option maxHeartbeats 4000000 in
theorem common_0 (u : ByteArray) (c : Nat) (hc : (bys u)[0]? = some c) (hd : digB c = true ∨ c = 46) (w : World) : Calls Tryz.prog 169 #[.string u, .string ⟨#[105, 110, 102, 105, 110, 105, 116, 121]⟩] w fun e w' => e = .returned (.int .i64 0) ∧ w' = w := by
  obtain ⟨k0, e0, -⟩ := bys_get hc
  have hcb : c < 65 ∧ c ≠ 105 := by
    rcases hd with h | h
    · have := dig_le h; omega
    · omega
  have h65 : ¬ (65 : Int) ≤ (c : Int) := by omega
  have h105 : ((c : Int) != 105) = true := by simp; omega
  obtain ⟨m, hm⟩ : ∃ m : Int, m = min 8 (u.size : Int) := ⟨_, rfl⟩
  have hm0 : 0 < m := by rw [hm]; omega
  have hm' : min (8 : Int) (u.size : Int) = m := hm.symm
  have e3 : ((ByteArray.mk #[105, 110, 102, 105, 110, 105, 116, 121])[0]'(by decide)).toNat = 105 := by decide +kernel
  clear hm hd hcb hc
  go_enter Tryz.func169, Tryz.ntmps169
  go_wp2
  go_loopw [6] (fun i w' => i = .int .i64 0 ∧ w' = w) (fun _ _ => 0)
  case atStart => exact ⟨rfl, rfl⟩
  case round =>
    obtain ⟨rfl, rfl⟩ := hrel
    go_wp2
    go_ret
    exact ⟨rfl, rfl⟩
theorem bys_ext (s : ByteArray) (i j : Nat) : bys (s.extract i j) = ((bys s).take j).drop i := by
  unfold bys
  rw [← List.map_take, ← List.map_drop]
  congr 1
  rw [ByteArray.data_extract, Array.toList_extract, List.extract_eq_take_drop, List.drop_take]
theorem sg_len : ∀ (ds t : List Nat), (ds.foldl sgStep t).length ≤ t.length + ds.length := by
  intro ds
  induction ds with
  | nil => intro t; simp
  | cons c ds ih =>
    intro t
    have h := ih (sgStep t c)
    have h2 : (sgStep t c).length ≤ t.length + 1 := by
      unfold sgStep
      split
      · omega
      · split
        · omega
        · simp
    rw [List.foldl_cons, List.length_cons]
    omega
theorem sg_bdy (d1 d2 : List Nat) (pt : Bool) : (sgB (bdy d1 pt d2)).length ≤ d1.length + d2.length := by
  unfold sgB bdy
  cases pt
  · have := sg_len d1 []
    simp only [Bool.false_eq_true, if_false, List.append_nil] at this ⊢
    simp at this
    omega
  · have h1 := sg_len d1 []
    have h2 := sg_len d2 (d1.foldl sgStep [])
    simp only [if_true, List.foldl_append, List.foldl_cons]
    rw [show sgStep (d1.foldl sgStep []) 46 = d1.foldl sgStep [] from rfl]
    simp at h1
    omega
set_option maxRecDepth 100000 in
set_option maxHeartbeats 4000000 in
theorem special_n (s : ByteArray) (c : Nat) (h0 : (bys s)[0]? = some 45) (hc : (bys s)[1]? = some c) (hd : digB c = true ∨ c = 46) (w : World) : Calls Tryz.prog 142 #[.string s] w fun e w' => e = .returned (.tuple #[.float .f64 0, .int .i64 0, .bool false]) ∧ w' = w := by
  obtain ⟨k0, e0, -⟩ := bys_get h0
  obtain ⟨k1, e1, -⟩ := bys_get hc
  have hu : (bys (s.extract 1 s.size))[0]? = some c := by
    rw [bys_ext, List.take_of_length_le (by rw [bys_len]; exact Nat.le_refl _), List.getElem?_drop]
    exact hc
  have HC := hid (common_0 (s.extract 1 s.size) c hu hd w)
  have hs : ((s.size : Int) == 0) = false := beq_eq_false_iff_ne.2 (by omega)
  have hs2 : (s = ByteArray.empty) = False := by
    simp only [eq_iff_iff, iff_false]
    intro h
    rw [h] at k0
    simp at k0
  clear hd hc hu h0
  go_enter Tryz.func142, Tryz.ntmps142
  go_wp2_with (first
    | (go_at_call 169; (with_reducible refine HC.out.mono ?_); rintro E1 w9 ⟨rfl, rfl⟩))
  go_ret3
  exact ⟨rfl, rfl⟩
/-- One number, told as a fraction. -/
theorem eqv_ratio {m d a b : Nat} {E p : Int} (h : Eqv m E d p) (he : m * 10 ^ E.toNat * b = a * 10 ^ (-E).toNat) : d * 10 ^ p.toNat * b = a * 10 ^ (-p).toNat := by
  have h1 := h (E.toNat + (-p).toNat) (p.toNat + (-E).toNat) (by omega)
  rw [Nat.pow_add, Nat.pow_add] at h1
  apply Nat.eq_of_mul_eq_mul_right (pw10 (-E).toNat)
  generalize 10 ^ E.toNat = A at *
  generalize 10 ^ (-p).toNat = B at *
  generalize 10 ^ p.toNat = C at *
  generalize 10 ^ (-E).toNat = D at *
  calc d * C * b * D = d * (C * D) * b := by grind
    _ = m * (A * B) * b := by rw [h1]
    _ = m * A * b * B := by grind
    _ = a * D * B := by rw [he]
    _ = a * B * D := Nat.mul_right_comm _ _ _
set_option maxRecDepth 100000 in
theorem atof_gen (s : ByteArray) (neg pt : Bool) (d1 d2 sg ds : List Nat) (E : Int) (a b : Nat) (hs : bys s = (if neg then [45] else []) ++ bdy d1 pt d2 ++ [101] ++ sg ++ ds) (h1 : ∀ c ∈ d1, digB c = true) (h2 : ∀ c ∈ d2, digB c = true) (hpt : pt = false → d2 = []) (hne : d1 ++ d2 ≠ []) (hl : (d1 ++ d2).length ≤ 64)
    (hd : ∀ c ∈ ds, digB c = true) (hd0 : ds ≠ []) (hsg : sg = [] ∨ sg = [45]) (hlen : s.size ≤ 200) (hE : E = (if sg = [] then exV ds else -exV ds) - d2.length) (hb : b ≠ 0) (he : dgv (d1 ++ d2) * 10 ^ E.toNat * b = a * 10 ^ (-E).toNat)
    (w : World) (hT : Tabs w) (hT2 : STabW w) : Calls Tryz.prog 130 #[.string s] w (RetAw w (val (sgn neg + nearW a b)) (rngG (nearW a b)) s.size) := by
  obtain ⟨n1, n2, n3, n4, n5⟩ := rd_num h1 h2 hpt
  have hb1 : bdy d1 pt d2 ≠ [] := by
    unfold bdy
    cases pt
    · rw [hpt rfl, List.append_nil] at hne
      simpa using hne
    · simp
  have hdig : (rdB (bdy d1 pt d2)).dig = true := by
    rw [n3]
    cases h : d1 ++ d2 with
    | nil => exact absurd h hne
    | cons x y => rfl
  have HR := fun w => readFloat_any s neg (bdy d1 pt d2) sg ds hs n5 hb1 hd hd0 hsg hlen hdig n4 w
  have HSp : ∀ w, Calls Tryz.prog 142 #[.string s] w fun e w' => e = .returned (.tuple #[.float .f64 0, .int .i64 0, .bool false]) ∧ w' = w := by
    obtain ⟨c, hc⟩ : ∃ c, (bdy d1 pt d2)[0]? = some c := ⟨(bdy d1 pt d2)[0]'(List.length_pos_iff.2 hb1), List.getElem?_eq_getElem _⟩
    have hcb := n5 c (List.mem_of_getElem? hc)
    have hlt : 0 < (bdy d1 pt d2).length := List.length_pos_iff.2 hb1
    intro w
    cases neg
    · refine special_d s c ?_ hcb w
      rw [hs]
      simp only [Bool.false_eq_true, if_false, List.nil_append, List.append_assoc]
      rw [List.getElem?_append_left hlt]
      exact hc
    · refine special_n s c ?_ ?_ hcb w
      · rw [hs]
        simp
      · rw [hs]
        simp only [if_true, List.append_assoc, List.cons_append, List.nil_append, List.getElem?_cons_succ]
        rw [List.getElem?_append_left hlt]
        exact hc
  have hR := rdR_of n5
  have hSet := fun {w : World} {b : Nat} hD => set_any s neg (bdy d1 pt d2) sg ds hs n5 hb1 hd hd0 hsg hlen hdig n4 (w := w) (b := b) hD
  rw [n2] at HR hSet
  rw [hR.nd] at HR hSet
  obtain ⟨t, ht⟩ : ∃ t, t = sgB (bdy d1 pt d2) := ⟨_, rfl⟩
  rw [← ht] at hR HR hSet n1
  rw [← n1] at he
  obtain ⟨st, hst⟩ : ∃ st, st = rdB (bdy d1 pt d2) := ⟨_, rfl⟩
  rw [← hst] at hR HR
  have hlt : t.length ≤ 64 := by
    rw [ht]
    have := sg_bdy d1 d2 pt
    rw [List.length_append] at hl
    omega
  obtain ⟨e, hee⟩ : ∃ e : Int, e = if sg = [] then exV ds else -exV ds := ⟨_, rfl⟩
  rw [← hee] at HR hSet hE
  have hnm := hR.nm
  have hman := hR.man
  cases hcut : st.cut
  · rw [hcut] at HR
    have hz := hR.c0 hcut
    have h64 : st.man < 18446744073709551616 := by
      rw [hman]
      have := dv_lt (t.take 19) fun c hc => hR.lt c (List.mem_of_mem_take hc)
      refine Nat.lt_of_lt_of_le this (Nat.le_trans (Nat.pow_le_pow_right (by decide) (show (t.take 19).length ≤ 19 by rw [List.length_take]; omega)) (by decide))
    obtain ⟨p, hp⟩ : ∃ p : Int, p = if st.man = 0 then 0 else (t.length : Int) - d2.length + e - st.nm := ⟨_, rfl⟩
    rw [← hp] at HR
    have hA := atof_any s st.man s.size p neg h64 HSp HR w hT
    have htr := trim_dv t 19 hz
    have he2 : st.man * 10 ^ p.toNat * b = a * 10 ^ (-p).toNat := by
      by_cases h0 : st.man = 0
      · rw [hman] at h0
        rw [htr, h0, Nat.zero_mul, Nat.zero_mul, Nat.zero_mul] at he
        have ha := (Nat.mul_eq_zero.1 he.symm).resolve_right (Nat.ne_of_gt (pw10 _))
        rw [hman, h0, ha, Nat.zero_mul, Nat.zero_mul, Nat.zero_mul]
      · rw [if_neg h0] at hp
        refine eqv_ratio (E := E) (m := dv t) ?_ he
        rw [htr, ← hman]
        have := Eqv.up st.man E (t.length - 19)
        rwa [show E + ((t.length - 19 : Nat) : Int) = p by omega] at this
    obtain ⟨v1, v2⟩ := at_near neg h64 hb he2
    unfold RetAt at hA
    rw [v1, v2] at hA
    exact hA
  · rw [hcut] at HR
    have h19 := hR.c1 hcut
    have hn : Nrm t := ⟨fun h => by rw [h] at h19; simp at h19, hR.lt, hR.hd, by omega⟩
    have hm0 : st.man ≠ 0 := by
      rw [hman]
      have := (nrm_take hn 19 (by decide)).lo
      have := pw10 ((t.take 19).length - 1)
      omega
    obtain ⟨dp0, hdp0⟩ : ∃ dp0 : Int, dp0 = (t.length : Int) - d2.length + e := ⟨_, rfl⟩
    rw [← hdp0] at HR hSet
    rw [if_neg hm0, hman, hnm, Nat.min_eq_right (by omega)] at HR
    have hr0 := nearW_near (dv t * 10 ^ E.toNat) (Nat.ne_of_gt (tenD_pos E))
    have hv : dv t * 10 ^ E.toNat * 2 ^ 1074 = tenV (dv t) E := rfl
    rw [hv] at hr0
    have hsame := same_near hr0 hb he
    rw [hsame]
    refine atof_cut s t dp0 neg _ _ hn h19 hlt ?_ rfl HSp HR (fun w b h => hSet h) w hT hT2
    rw [show dp0 - (t.length : Int) = E by omega]
    exact hr0
end Go.Proofs.YtfalbdlfopfgcaaGreatDoor

