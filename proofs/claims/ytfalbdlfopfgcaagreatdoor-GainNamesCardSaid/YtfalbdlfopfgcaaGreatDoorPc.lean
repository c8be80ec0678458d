/- internal/strconv.parseFloat64. Conditions: the table of powers lies there; the number is not 0 and below 2^64; the power from -345 to 310. -/
import Derived.Test.YtfalbdlfopfgcaaGreatDoorPb
import GoSem.PinnedTables
namespace Go.Proofs.YtfalbdlfopfgcaaGreatDoor
open Go.RowKit

def p10 (k : Nat) : Nat × Nat := Go.Pinned.pow10Rows.getD k (0, 0)
theorem bitLenAux_le (f : Nat) : ∀ x, Lib.bitLenAux f x ≤ f := by
  induction f with
  | zero => intro x; simp [Lib.bitLenAux]
  | succ f ih =>
    intro x
    simp only [Lib.bitLenAux]
    split
    · omega
    · have := ih (x / 2); omega
theorem bitLen_le (x : Nat) : Lib.bitLen x ≤ 64 := bitLenAux_le 64 x
theorem bitLenAux_spec : ∀ (f x : Nat), x < 2 ^ f → 0 < x → 1 ≤ Lib.bitLenAux f x ∧ 2 ^ (Lib.bitLenAux f x - 1) ≤ x ∧ x < 2 ^ Lib.bitLenAux f x := by
  intro f
  induction f with
  | zero => intro x h h0; simp at h; omega
  | succ f ih =>
    intro x h h0
    simp only [Lib.bitLenAux]
    rw [if_neg (by omega)]
    rw [Nat.pow_succ] at h
    rcases Nat.eq_zero_or_pos (x / 2) with h1 | h1
    · have hx : x = 1 := by omega
      subst hx
      have : Lib.bitLenAux f (1 / 2) = 0 := by
        cases f <;> simp [Lib.bitLenAux]
      rw [this]
      decide
    · obtain ⟨a, b, c⟩ := ih (x / 2) (by omega) h1
      generalize Lib.bitLenAux f (x / 2) = k at *
      obtain ⟨j, rfl⟩ : ∃ j, k = j + 1 := ⟨k - 1, by omega⟩
      rw [show 1 + (j + 1) - 1 = j + 1 from by omega, show 1 + (j + 1) = (j + 1) + 1 from by omega]
      rw [Nat.add_sub_cancel] at b
      rw [Nat.pow_succ] at c ⊢
      have e : 2 ^ (j + 1) = 2 ^ j * 2 := Nat.pow_succ ..
      rw [Nat.pow_succ]
      omega
/-- The table of powers lies in the world. -/
def PTab (w : World) : Prop := ∀ k, k < 696 → w.cell? ⟨11, k * 2, none⟩ = some (.int .u64 ((p10 k).1 : Nat)) ∧ w.cell? ⟨11, k * 2 + 1, none⟩ = some (.int .u64 ((p10 k).2 : Nat))
theorem p10_lt (k : Nat) : (p10 k).1 < 18446744073709551616 ∧ (p10 k).2 < 18446744073709551616 := by
  have h : ∀ x ∈ Go.Pinned.pow10Rows, x.1 < 18446744073709551616 ∧ x.2 < 18446744073709551616 := by decide +kernel
  unfold p10
  rw [List.getD_eq_getElem?_getD]
  cases hk : Go.Pinned.pow10Rows[k]? with
  | none => exact ⟨by decide, by decide⟩
  | some x => exact h x (List.mem_of_getElem? hk)
theorem PTab.below {w w' : World} (h : PTab w) (hb : Below w.heap.size w w') : PTab w' := fun k hk => by
  obtain ⟨h1, h2⟩ := h k hk
  exact ⟨(hb.cell (World.block_lt_of_cell? _ _ h1)).trans h1, (hb.cell (World.block_lt_of_cell? _ _ h2)).trans h2⟩
theorem uscN_lt (x hi lo s : Nat) (hx : x < 18446744073709551616) (hh : hi < 18446744073709551616) (hs : 8 ≤ s) : uscN x hi lo s ≤ 72057594037927936 := by
  have hH : x * hi / 18446744073709551616 < 18446744073709551616 := by
    have := Nat.mul_le_mul (Nat.le_of_lt_succ hx : x ≤ 18446744073709551615) (Nat.le_of_lt_succ hh : hi ≤ 18446744073709551615)
    omega
  have key : ∀ J t, J < 18446744073709551616 → t ≤ 1 → J / 2 ^ s ||| t ≤ 72057594037927936 := by
    intro J t hJ ht
    have h1 : J / 2 ^ s ≤ J / 2 ^ 8 := Nat.div_le_div_left (Nat.pow_le_pow_right (by decide) hs) (by decide)
    have h2 : J / 2 ^ s ||| t < 2 ^ 56 := Nat.or_lt_two_pow (by omega) (by omega)
    omega
  unfold uscN
  split
  · exact key _ 1 hH (Nat.le_refl _)
  · refine key _ _ (Nat.mod_lt _ (by decide)) ?_
    split <;> omega
theorem blk_nw (w : World) (o : Obj) : (w.alloc o).heap[w.heap.size]? = some o := by
  show (w.heap.push _)[w.heap.size]? = _
  simp
theorem bl_w (w : World) (o : Obj) : Below w.heap.size w (w.alloc o) := (Below.refl _ w).alloc (Nat.le_refl _) o
def pfL (p : Int) : Int := p * 108853 / 32768
def pfE (d : Nat) (p : Int) : Int := min 1074 (53 - (Lib.bitLen d : Int) - pfL p)
def pfS (d : Nat) (p : Int) : Int := -(pfE d p - (64 - (Lib.bitLen d : Int)) + pfL p + 3)
def pfU (d : Nat) (p : Int) : Nat := uscN (d * 2 ^ (64 - Lib.bitLen d)) (p10 (p + 348).toNat).1 (p10 (p + 348).toNat).2 (pfS d p).toNat
def pfM (u : Nat) : Nat := (u + 1 + u / 4 % 2) / 4
def pfV (u : Nat) : Nat := if 36028797018963966 ≤ u then u / 2 ||| (u &&& 1) else u
/-- What parseFloat64 tells: the word, the error. -/
def pfN (d : Nat) (p : Int) (sg : Nat) : Nat := if 64 ≤ pfS d p then sg else packN (sg ||| pfM (pfV (pfU d p))) (-(pfE d p - if 36028797018963966 ≤ pfU d p then 1 else 0))
def pfG (d : Nat) (p : Int) (sg : Nat) : Value := if 64 ≤ pfS d p then .nilIface else packE (sg ||| pfM (pfV (pfU d p))) (-(pfE d p - if 36028797018963966 ≤ pfU d p then 1 else 0))
theorem pfL_b {p : Int} (h1 : -345 ≤ p) (h2 : p ≤ 310) : -1200 ≤ pfL p ∧ pfL p ≤ 1200 := by unfold pfL; omega
theorem pfS_b (d : Nat) (p : Int) : 8 ≤ pfS d p := by unfold pfS pfE; omega
set_option maxRecDepth 100000 in
set_option maxHeartbeats 2000000 in
theorem parseFloat64_any (d : Nat) (hd0 : 0 < d) (hd : d < 18446744073709551616) (p : Int) (h1 : -345 ≤ p) (h2 : p ≤ 310) (sg : Nat) (hsg : sg = 0 ∨ sg = 9223372036854775808) (w : World) (hT : PTab w) (hb : 11 < w.heap.size) :
    Calls Tryz.prog 154 #[.int .u64 d, .int .i64 p, .int .u64 sg] w fun E w' => E = .returned (.tuple #[.float .f64 (pfN d p sg), pfG d p sg]) ∧ Below w.heap.size w w' := by
  obtain ⟨b, hbl⟩ : ∃ b, b = Lib.bitLen d := ⟨_, rfl⟩
  have hb64 : b ≤ 64 := by rw [hbl]; exact bitLen_le d
  have HL := hid fun w => Tryz.bits_Len64 (d : Int) w (by omega) (by omega)
  rw [Int.toNat_natCast, ← hbl] at HL
  have HP := hid fun w => log2Pow10_any p (by omega) (by omega) w
  have hLb := pfL_b h1 h2
  obtain ⟨L, hL⟩ : ∃ L, L = pfL p := ⟨_, rfl⟩
  rw [show p * 108853 / 32768 = L from hL.symm] at HP
  rw [← hL] at hLb
  obtain ⟨e, he⟩ : ∃ e, e = pfE d p := ⟨_, rfl⟩
  have ge : min 1074 (53 - (b : Int) - L) = e := by rw [he, pfE, ← hbl, ← hL]
  have heb : -1300 ≤ e ∧ e ≤ 1074 ∧ e ≤ 53 - (b : Int) - L := by omega
  obtain ⟨S, hS⟩ : ∃ S, S = pfS d p := ⟨_, rfl⟩
  have gS : -(e - (64 - (b : Int)) + L + 3) = S := by rw [hS, pfS, ← hbl, ← hL, ← he]
  have hS8 : 8 ≤ S ∧ S ≤ 5000 := by omega
  obtain ⟨k, hk⟩ : ∃ k, k = (p + 348).toNat := ⟨_, rfl⟩
  have hk1 : p + 348 = (k : Int) := by omega
  obtain ⟨t0, t1⟩ := hT k (by omega)
  obtain ⟨ph, pl⟩ := p10_lt k
  obtain ⟨hi, hhi⟩ : ∃ hi, hi = (p10 k).1 := ⟨_, rfl⟩
  obtain ⟨lo, hlo⟩ : ∃ lo, lo = (p10 k).2 := ⟨_, rfl⟩
  rw [← hhi] at t0 ph
  rw [← hlo] at t1 pl
  have HPs := hid (prescale_any (e - (64 - (b : Int))) p L k hi lo hk1 (by omega) (by omega) (by omega) w.heap.size (w.alloc (.cells #[.int .u64 0, .int .u64 0, .int .i64 0] 227)) (by omega) (.int .u64 0) (.int .u64 0) (.int .i64 0) (blk_nw _ _) ((Below.cell (bl_w w _) (World.block_lt_of_cell? _ _ t0)).trans t0) ((Below.cell (bl_w w _) (World.block_lt_of_cell? _ _ t1)).trans t1))
  rw [gS] at HPs
  replace hbl := hid hbl
  replace hL := hid hL
  replace he := hid he
  replace hS := hid hS
  replace hk := hid hk
  replace hhi := hid hhi
  replace hlo := hid hlo
  clear hk1
  go_enter Tryz.func154, Tryz.ntmps154
  go_upto_region 6 with (first
    | (go_at_call 43; (with_reducible refine (HL.out _).mono ?_); rintro E1 w1 ⟨rfl, rfl⟩)
    | (go_at_call 172; (with_reducible refine (HP.out _).mono ?_); rintro E1 w1 ⟨rfl, rfl⟩)
    | (go_at_call 173; go_loud ((with_reducible refine HPs.out.mono ?_); rintro E1 w2 ⟨rfl, rfl⟩)))
  clear HL HP HPs ge gS t0 t1
  have hbw := bl_w w1 (.cells #[.int .u64 hi, .int .u64 lo, .int .i64 S] 227)
  have hbk := blk_nw w1 (.cells #[.int .u64 hi, .int .u64 lo, .int .i64 S] 227)
  obtain ⟨w2, hw2⟩ : ∃ w2, w2 = w1.alloc (.cells #[.int .u64 hi, .int .u64 lo, .int .i64 S] 227) := ⟨_, rfl⟩
  rw [← hw2] at hbw hbk ⊢
  clear hw2
  have c0 : w2.cell? ⟨w1.heap.size, 0, none⟩ = some (.int .u64 hi) := by simp [World.cell?, hbk]
  have c1 : w2.cell? ⟨w1.heap.size, 1, none⟩ = some (.int .u64 lo) := by simp [World.cell?, hbk]
  have c2 : w2.cell? ⟨w1.heap.size, 2, none⟩ = some (.int .i64 S) := by simp [World.cell?, hbk]
  clear hbk
  by_cases h64 : 64 ≤ S
  · have g0 : bits .or .u64 (sg : Int) 0 = (sg : Int) := by
      have := bits_or_u64_nat sg 0 (by omega) (by omega)
      rw [Nat.or_zero] at this
      exact this
    have hN : Hid (pfN d p sg = sg) := hid (by unfold pfN; rw [if_pos (by rw [← hS.out]; exact h64)])
    have hG : Hid (pfG d p sg = .nilIface) := hid (by unfold pfG; rw [if_pos (by rw [← hS.out]; exact h64)])
    go_wp2
    go_ret2
    rw [hN.out, hG.out]
    exact ⟨rfl, hbw⟩
  · obtain ⟨s, hs⟩ : ∃ s, s = S.toNat := ⟨_, rfl⟩
    obtain rfl : S = (s : Int) := by omega
    have hs64 : s < 64 := by omega
    obtain ⟨X, hX⟩ : ∃ X, X = d * 2 ^ (64 - b) := ⟨_, rfl⟩
    have hXl : X < 18446744073709551616 := by
      obtain ⟨-, -, h3⟩ := bitLenAux_spec 64 d (by omega) hd0
      have h4 : d < 2 ^ b := by rw [hbl.out]; exact h3
      rw [hX]
      calc d * 2 ^ (64 - b) < 2 ^ b * 2 ^ (64 - b) := Nat.mul_lt_mul_of_pos_right h4 (Nat.two_pow_pos _)
        _ = 2 ^ 64 := by rw [← Nat.pow_add]; congr 1; omega
        _ = 18446744073709551616 := by decide
    obtain ⟨q, hq⟩ : ∃ q, q = 64 - b := ⟨_, rfl⟩
    have gq : 64 - (b : Int) = (q : Int) := by omega
    have gX : (d : Int) * 2 ^ q = (X : Int) := by rw [hX, hq]; push_cast; rfl
    have gw : IntKind.u64.wrap (X : Int) = (X : Int) := by rw [IntKind.wrap_u64]; omega
    obtain ⟨u, hu⟩ : ∃ u, u = uscN X hi lo s := ⟨_, rfl⟩
    have hul : u ≤ 72057594037927936 := by rw [hu]; exact uscN_lt X hi lo s hXl ph (by omega)
    have HU := hid (uscale_any X hi lo s hXl ph pl hs64 w1.heap.size w2 c0 c1 c2)
    rw [← hu] at HU
    have hpu : u = pfU d p := by
      rw [hu, hX, hhi.out, hlo.out]
      unfold pfU
      rw [← hbl.out, ← hS.out, ← hk.out]
      rfl
    obtain ⟨v, hv⟩ : ∃ v, v = pfV u := ⟨_, rfl⟩
    obtain ⟨m, hm⟩ : ∃ m, m = pfM v := ⟨_, rfl⟩
    obtain ⟨o1, ho1⟩ : ∃ o1, o1 = sg ||| m := ⟨_, rfl⟩
    have a1 : bits .and .u64 (u : Int) 1 = ((u &&& 1 : Nat) : Int) := bits_and_u64_nat u 1 (by omega) (by omega)
    obtain ⟨y, hy⟩ : ∃ y, y = u &&& 1 := ⟨_, rfl⟩
    rw [← hy] at a1
    have hyl : y ≤ 1 := by rw [hy, Nat.and_one_is_mod]; omega
    by_cases hge : 36028797018963966 ≤ u
    · obtain ⟨t, ht⟩ : ∃ t, t = u / 2 := ⟨_, rfl⟩
      have gt : (u : Int) / 2 = (t : Int) := by omega
      have hvv : v = t ||| y := by rw [hv, pfV, if_pos hge, ht, hy]
      have a2 : bits .or .u64 (t : Int) (y : Int) = (v : Int) := by rw [hvv]; exact bits_or_u64_nat t y (by omega) (by omega)
      have hvl : v < 72057594037927936 := by rw [hvv]; exact Nat.or_lt_two_pow (n := 56) (by omega) (by omega)
      have HRo := hid fun w => uround_any v (by omega) w
      rw [show (v + 1 + v / 4 % 2) / 4 = m from hm.symm] at HRo
      have hml : m ≤ 18014398509481985 := by rw [hm]; unfold pfM; omega
      have hol : o1 < 18446744073709551616 := by rw [ho1]; exact Nat.or_lt_two_pow (n := 64) (by omega) (by omega)
      have a3 : bits .or .u64 (sg : Int) (m : Int) = (o1 : Int) := by rw [ho1]; exact bits_or_u64_nat sg m (by omega) (by omega)
      have HPk := hid fun w => pack64_any o1 (-(e - 1)) hol (by omega) (by omega) w
      have hN : Hid (pfN d p sg = packN o1 (-(e - 1))) := hid (by
        unfold pfN
        rw [← hS.out, if_neg h64, ← hpu, if_pos hge, ← hv, ← hm, ← ho1, ← he.out])
      have hG : Hid (pfG d p sg = packE o1 (-(e - 1))) := hid (by
        unfold pfG
        rw [← hS.out, if_neg h64, ← hpu, if_pos hge, ← hv, ← hm, ← ho1, ← he.out])
      have HUm := hid fun w => unmin_any w
      have HBi : Hid (∀ w, Calls Tryz.prog 156 #[.bool true] w fun e w' => e = .returned (.int .i64 1) ∧ w' = w) := hid fun w => bool2i_any true w
      have g36 : (36028797018963966 : Int) ≤ (u : Int) := by omega
      clear hX hq hu hs hpu hv hm ho1 hy ht hvv
      go_wp2_with (first
        | (go_at_call 174; ((with_reducible refine HU.out.mono ?_); rintro E1 w3 ⟨rfl, nu, rfl⟩))
        | (go_at_call 175; ((with_reducible refine (HUm.out _).mono ?_); rintro E1 w3 ⟨rfl, rfl⟩))
        | (go_at_call 156; ((with_reducible refine (HBi.out _).mono ?_); rintro E1 w3 ⟨rfl, rfl⟩))
        | (go_at_call 177; ((with_reducible refine (HRo.out _).mono ?_); rintro E1 w3 ⟨rfl, rfl⟩))
        | (go_at_call 180; go_loud ((with_reducible refine (HPk.out _).mono ?_); rintro E1 w3 ⟨rfl, rfl⟩)))
      go_ret2
      rw [hN.out, hG.out]
      exact ⟨rfl, below_drewN' hbw _⟩
    · obtain ⟨t, ht⟩ : ∃ t, t = u := ⟨_, rfl⟩
      have hvv : v = u := by rw [hv, pfV, if_neg hge]
      have a2 : bits .or .u64 (u : Int) (y : Int) = (v : Int) := by
        rw [hvv, bits_or_u64_nat u y (by omega) (by omega), hy]
        congr 1
        apply Nat.eq_of_testBit_eq
        intro i
        rw [Nat.testBit_or, Nat.testBit_and]
        cases u.testBit i <;> simp
      have HRo := hid fun w => uround_any v (by omega) w
      rw [show (v + 1 + v / 4 % 2) / 4 = m from hm.symm] at HRo
      have hml : m ≤ 18014398509481985 := by rw [hm]; unfold pfM; omega
      have hol : o1 < 18446744073709551616 := by rw [ho1]; exact Nat.or_lt_two_pow (n := 64) (by omega) (by omega)
      have a3 : bits .or .u64 (sg : Int) (m : Int) = (o1 : Int) := by rw [ho1]; exact bits_or_u64_nat sg m (by omega) (by omega)
      have HPk := hid fun w => pack64_any o1 (-e) hol (by omega) (by omega) w
      have hN : Hid (pfN d p sg = packN o1 (-e)) := hid (by
        unfold pfN
        rw [← hS.out, if_neg h64, ← hpu, if_neg hge, ← hv, ← hm, ← ho1, ← he.out, Int.sub_zero])
      have hG : Hid (pfG d p sg = packE o1 (-e)) := hid (by
        unfold pfG
        rw [← hS.out, if_neg h64, ← hpu, if_neg hge, ← hv, ← hm, ← ho1, ← he.out, Int.sub_zero])
      have HUm := hid fun w => unmin_any w
      have HBi : Hid (∀ w, Calls Tryz.prog 156 #[.bool false] w fun e w' => e = .returned (.int .i64 0) ∧ w' = w) := hid fun w => bool2i_any false w
      have g36 := hid (show decide ((36028797018963966 : Int) ≤ (u : Int)) = false by rw [decide_eq_false_iff_not]; omega)
      clear hX hq hu hs hpu hv hm ho1 hy ht hvv
      go_wp2_with (first
        | (go_at_call 174; ((with_reducible refine HU.out.mono ?_); rintro E1 w3 ⟨rfl, nu, rfl⟩))
        | (go_at_call 175; ((with_reducible refine (HUm.out _).mono ?_); rintro E1 w3 ⟨rfl, rfl⟩))
        | (go_at_call 156; (rw [g36.out]; (with_reducible refine (HBi.out _).mono ?_); rintro E1 w3 ⟨rfl, rfl⟩))
        | (go_at_call 177; ((with_reducible refine (HRo.out _).mono ?_); rintro E1 w3 ⟨rfl, rfl⟩))
        | (go_at_call 180; go_loud ((with_reducible refine (HPk.out _).mono ?_); rintro E1 w3 ⟨rfl, rfl⟩)))
      go_ret2
      rw [hN.out, hG.out]
      exact ⟨rfl, below_drewN' hbw _⟩
end Go.Proofs.YtfalbdlfopfgcaaGreatDoor

