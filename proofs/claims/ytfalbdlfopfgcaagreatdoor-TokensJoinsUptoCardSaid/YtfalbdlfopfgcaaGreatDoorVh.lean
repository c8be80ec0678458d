/- gridworkref05.Parse, gridworkref14.Number, gridworkref02.SameReal: walks. No condition. -/
import Derived.Test.YtfalbdlfopfgcaaGreatDoorVg
import Derived.Test.YtfalbdlfopfgcaaGreatDoorVd
import Derived.Test.YtfalbdlfopfgcaaGreatDoorQaM
namespace Go.Proofs.YtfalbdlfopfgcaaGreatDoor
open Go.RowKit

theorem ex_run_ok : ∀ (l : List Nat) (S : ExS) (i j : Nat) (S' : ExS), ExOk S j → exRun S i l = .inr S' → ExOk S' (j + l.length) := by
  intro l
  induction l with
  | nil =>
    intro S i j S' h e
    rw [exRun] at e
    cases e
    exact h
  | cons c l ih =>
    intro S i j S' h e
    rw [exRun] at e
    split at e
    · rename_i hb
      have h2 := ih _ _ (j + 1) _ (ex_next h hb rfl) e
      rw [List.length_cons, show j + (l.length + 1) = j + 1 + l.length by omega]
      exact h2
    · cases e
theorem exOk0 : ExOk exS0 0 := ⟨by decide, by decide, by decide, by decide, fun e => absurd e (by decide), fun _ => rfl, by decide, by decide, by decide⟩
theorem pw_19 (K : Nat) : (10 : Nat) ^ (19 * K) ≤ 4294967296 ^ (2 * K) := by
  rw [Nat.pow_mul, Nat.pow_mul]
  exact Nat.pow_le_pow_left (by decide) K
theorem rten_len {a n : Nat} (K : Nat) (h : a < 10 ^ n) (hn : n ≤ 19 * K) : (wds a).length ≤ 2 * K := wds_len a (2 * K) (Nat.lt_of_lt_of_le h (Nat.le_trans (pw_le hn) (pw_19 K)))
theorem tenP_len {a j : Nat} {k : Int} (h : a < 10 ^ j) (hj : j ≤ 64) (hk : k ≤ 10014) : (wds (tenP a k)).length ≤ 1100 := by
  refine Nat.le_trans ?_ (show 2 * 531 ≤ 1100 by decide)
  unfold tenP
  split
  · exact rten_len 531 h (by omega)
  · refine rten_len 531 (n := j + k.toNat) ?_ (by omega)
    rw [Nat.pow_add]
    exact Nat.mul_lt_mul_of_pos_right h (Nat.pow_pos (by decide))
theorem tenQ_len {k : Int} (hk : -10080 ≤ k) : (wds (tenQ k)).length ≤ 1100 := by
  refine Nat.le_trans ?_ (show 2 * 531 ≤ 1100 by decide)
  unfold tenQ
  split
  · exact rten_len 531 (n := (-k).toNat + 1) (Nat.pow_lt_pow_right (by decide) (Nat.lt_succ_self _)) (by omega)
  · exact rten_len 531 (n := 1) (by decide) (by decide)
theorem copysign_any (x : Nat) (hx : x ≤ 9218868437227405312) (w : World) : Calls Tryz.prog 21 #[.float .f64 x, .float .f64 13830554455654793216] w fun e w' => e = .returned (.float .f64 (sgn true + x)) ∧ w' = w := by
  have h1 : sizeB x = x := by unfold sizeB; omega
  have h2 : bits .and .u64 13830554455654793216 9223372036854775808 = 9223372036854775808 := by decide +kernel
  have h3 : bits .or .u64 (x : Int) 9223372036854775808 = ((sgn true + x : Nat) : Int) := by
    have h := bits_or_u64_nat x 9223372036854775808 (by omega) (by omega)
    have e : x ||| 9223372036854775808 = sgn true + x := by
      rw [Nat.or_comm, show (9223372036854775808 : Nat) = 1 <<< 63 from rfl, ← Nat.shiftLeft_add_eq_or_of_lt (show x < 2 ^ 63 by omega) 1]
      rfl
    rw [e] at h
    exact h
  obtain ⟨y, hy⟩ : ∃ y, y = sgn true + x := ⟨_, rfl⟩
  have hy2 : y < 18446744073709551616 := by rw [hy]; unfold sgn; simp; omega
  rw [← hy] at h3 ⊢
  clear hy
  go_enter Tryz.func21, Tryz.ntmps21
  go_wp2
  go_ret
  exact ⟨rfl, rfl⟩
theorem sameReal_any (x : Nat) (hx : feq (val x) (val x) = true) (w : World) : Calls Tryz.prog 31 #[.float .f64 x, .float .f64 x] w fun e w' => e = .returned (.bool true) ∧ w' = w := by
  go_enter Tryz.func31, Tryz.ntmps31
  go_wp2
  go_ret
  exact ⟨rfl, rfl⟩
theorem num_ok (n : Nat) (hw : IsW n) (hn : nanB n = false) : val n = some n ∧ feq (val n) (val n) = true := ⟨val_some hn, by rw [val_some hn, feq_key hw hw hn hn]; exact decide_eq_true rfl⟩
theorem num_fin {neg : Bool} {r : Nat} (h : r ≤ 9218868437227405312) : IsW (sgn neg + r) ∧ nanB (sgn neg + r) = false := by
  unfold sgn nanB IsW
  cases neg
  · simp only [if_neg Bool.false_ne_true]
    exact ⟨by omega, decide_eq_false (by omega)⟩
  · simp only [if_true]
    exact ⟨by omega, decide_eq_false (by omega)⟩
theorem num_0 : ∃ n, some 0 = some n ∧ val n = some n ∧ feq (val n) (val n) = true := ⟨0, rfl, num_ok 0 isW_0 (by decide +kernel)⟩
/-- The number of a word is no NaN. -/
theorem numV_some (neg : Bool) (dg : Nat) (k : Int) : ∃ n, (numV neg dg k).1 = some n ∧ val n = some n ∧ feq (val n) (val n) = true := by
  unfold numV
  generalize hr : nearW (tenP dg k) (tenQ k) = r
  have h := near_le (tenP dg k) (tenQ_ne k)
  rw [hr] at h
  split
  · exact num_0
  · obtain ⟨h1, h2⟩ := num_fin (neg := neg) h
    exact ⟨sgn neg + r, val_some h2, num_ok _ h1 h2⟩
theorem numR_some (l : List Nat) : ∃ n, (numR l).1 = some n ∧ val n = some n ∧ feq (val n) (val n) = true := by
  unfold numR
  split
  · exact num_0
  · split
    · exact num_0
    · split
      · exact num_0
      · exact numV_some _ _ _
set_option maxRecDepth 100000 in
set_option maxHeartbeats 4000000 in
theorem rParse_bad (s : ByteArray) (hs : s.size ≤ 64) (j : Nat) (w : World)
    (HX : Hid (∀ w, Calls Tryz.prog 85 #[.string s] w fun E w' => ∃ ap np cp aq nq cq neg, E = .returned (.tuple #[.agg #[.bool false, .slice ap np cp, .bool false, .slice aq nq cq], .bool neg, .int .i64 (j : Int), .bool false]) ∧ Below w.heap.size w w')) :
    Calls Tryz.prog 60 #[.string s] w (RetNum w (some 0) 150 j) := by
  have e0 : ¬ (64 : Int) < (s.size : Int) := by omega
  have hf0 := FaultAt.new w 0 0
  have hb0 : Below w.heap.size w (w.alloc (.cells #[.int .i64 0, .int .i64 0] 25)) := (Below.refl _ w).alloc (Nat.le_refl _) _
  go_enter Tryz.func60, Tryz.ntmps60
  go_upto_region 4 with (first
    | (go_at_call 85; (with_reducible refine (HX.out _).mono ?_); rintro E1 w1 ⟨ap, np, cp, aq, nq, cq, neg, rfl, hbc⟩))
  have hb1 := (hb0.trans (hbc.mono hb0.size))
  have hbr : Below w1.heap.size w1 (w1.alloc (.cells #[.bool false, .slice ap np cp, .bool false, .slice aq nq cq] 104)) := (Below.refl _ w1).alloc (Nat.le_refl _) _
  have hf1 := fault_step (fault_step hf0 hbc) hbr
  have hb2 := hb1.trans (hbr.mono hb1.size)
  have c0 := hf1.c0
  have c1 := hf1.c1
  have f0 := hf1.fr 0
  have f1 := hf1.fr 1
  clear hf0 hb0 hbc hbr hb1 hs e0 HX
  go_wp2
  refine bodyPost_ret (results_fault rfl _ _ w.heap.size 150 j rfl (hf1.set2 150 j)) rfl ?_
  exact ⟨0, rfl, show val 0 = some 0 by decide +kernel, below_set2 hb2 _ _⟩
set_option maxRecDepth 100000 in
set_option maxHeartbeats 4000000 in
theorem rParse_good (s : ByteArray) (hs : s.size ≤ 64) (neg : Bool) (p q r : Nat) (hr : r ≤ 9218868437227405312) (w : World) (v : Option Nat) (x y : Int)
    (HX : Hid (∀ w, Calls Tryz.prog 85 #[.string s] w fun E w' => ∃ ap np cp aq nq cq at_, E = .returned (.tuple #[.agg #[.bool false, .slice ap np cp, .bool false, .slice aq nq cq], .bool neg, .int .i64 at_, .bool true]) ∧ Wn w' (.slice ap np cp) p ∧ Wn w' (.slice aq nq cq) q ∧ Below w.heap.size w w'))
    (HN : Hid (∀ w vp vq, Wn w vp p → Wn w vq q → Calls Tryz.prog 48 #[.agg #[.bool false, vp, .bool false, vq]] w fun E w' => E = .returned (.float .f64 r) ∧ Below w.heap.size w w'))
    (H1 : 9218868437227405312 ≤ r → v = some 0 ∧ x = 6 ∧ y = -1) (H2 : ¬ 9218868437227405312 ≤ r → v = val (sgn neg + r) ∧ x = 0 ∧ y = 0) :
    Calls Tryz.prog 60 #[.string s] w (RetNum w v x y) := by
  have e0 : ¬ (64 : Int) < (s.size : Int) := by omega
  have hf0 := FaultAt.new w 0 0
  have hb0 : Below w.heap.size w (w.alloc (.cells #[.int .i64 0, .int .i64 0] 25)) := (Below.refl _ w).alloc (Nat.le_refl _) _
  have HC := hid fun w => copysign_any r hr w
  have hcmp : flt (val 9218868437227405311) (val r) = decide (9218868437227405312 ≤ r) := by
    have h := inf_word false hr
    unfold isInf at h
    have h1 : sgn false + r = r := Nat.zero_add r
    have h2 : fsize (val r) = val r := by
      rw [← val_size]
      congr 1
      unfold sizeB
      omega
    rw [h1, h2] at h
    exact h
  have H1' := hid H1
  have H2' := hid H2
  clear H1 H2 hr hs
  go_enter Tryz.func60, Tryz.ntmps60
  go_upto_region 4 with (first
    | (go_at_call 85; (with_reducible refine (HX.out _).mono ?_); rintro E1 w1 ⟨ap, np, cp, aq, nq, cq, at_, rfl, hp, hq, hbc⟩))
  have hb1 := hb0.trans (hbc.mono hb0.size)
  have hbr : Below w1.heap.size w1 (w1.alloc (.cells #[.bool false, .slice ap np cp, .bool false, .slice aq nq cq] 104)) := (Below.refl _ w1).alloc (Nat.le_refl _) _
  have hr0 := RatB.new w1 (.bool false) (.slice ap np cp) (.bool false) (.slice aq nq cq)
  have hf1 := fault_step (fault_step hf0 hbc) hbr
  have hb2 := hb1.trans (hbr.mono hb1.size)
  have hp2 := hp.below hbr
  have hq2 := hq.below hbr
  obtain ⟨w2, hw2⟩ : ∃ w2, w2 = w1.alloc (.cells #[.bool false, .slice ap np cp, .bool false, .slice aq nq cq] 104) := ⟨_, rfl⟩
  rw [← hw2] at hr0 hf1 hb2 hp2 hq2 ⊢
  have r0 := hr0.c0
  have r1 := hr0.c1
  have r2 := hr0.c2
  have r3 := hr0.c3
  have hNr := hid (HN.out w2 _ _ hp2 hq2)
  clear hw2 hbr hbc hb1 hb0 hf0 HX HN hp hq hp2 hq2 e0
  go_upto_region 7 with (go_at_call 48; (with_reducible refine hNr.out.mono ?_); rintro E2 w3 ⟨rfl, hb3⟩)
  have hf2 := fault_step hf1 hb3
  have hb4 := hb2.trans (hb3.mono hb2.size)
  have c0 := hf2.c0
  have c1 := hf2.c1
  have f0 := hf2.fr 0
  have f1 := hf2.fr 1
  clear hf1 hb2 hb3 hNr r0 r1 r2 r3 hr0
  by_cases hbig : 9218868437227405312 ≤ r
  · rw [decide_eq_true hbig] at hcmp
    obtain ⟨rfl, rfl, rfl⟩ := H1'.out hbig
    clear H1' H2' hbig
    go_wp2
    refine bodyPost_ret (results_fault rfl _ _ w.heap.size 6 (-1) rfl (hf2.set2 6 (-1))) rfl ?_
    exact ⟨0, rfl, show val 0 = some 0 by decide +kernel, below_set2 hb4 _ _⟩
  · rw [decide_eq_false hbig] at hcmp
    obtain ⟨rfl, rfl, rfl⟩ := H2'.out hbig
    clear H1' H2' hbig
    cases neg
    · go_wp2
      refine bodyPost_ret (results_fault rfl _ _ w.heap.size 0 0 rfl (hf2.set2 0 0)) rfl ?_
      exact ⟨r, rfl, congrArg val (Nat.zero_add r).symm, below_set2 hb4 _ _⟩
    · go_wp2_with (go_at_call 21; (with_reducible refine (HC.out _).mono ?_); rintro E3 w4 ⟨rfl, rfl⟩)
      refine bodyPost_ret (results_fault rfl _ _ w.heap.size 0 0 rfl (hf2.set2 0 0)) rfl ?_
      exact ⟨_, rfl, rfl, below_set2 hb4 _ _⟩
set_option maxRecDepth 100000 in
set_option maxHeartbeats 4000000 in
theorem rParse_any (s : ByteArray) (w : World) : Calls Tryz.prog 60 #[.string s] w (RetNum w (numR (bys s)).1 (numR (bys s)).2.1 (numR (bys s)).2.2) := by
  by_cases h64 : 64 < s.size
  · have hn : numR (bys s) = (some 0, 3, -1) := by
      unfold numR
      rw [if_pos (by rw [bys_len]; exact h64)]
    rw [hn]
    have e1 : (64 : Int) < (s.size : Int) := by omega
    clear hn h64
    go_enter Tryz.func60, Tryz.ntmps60
    go_wp2
    refine bodyPost_ret (results_fault rfl _ _ w.heap.size 3 (-1) rfl (FaultAt.new _ _ _)) rfl ?_
    exact ⟨0, rfl, by decide +kernel, (Below.refl _ w).alloc (Nat.le_refl _) _⟩
  · have hs : s.size ≤ 64 := by omega
    have hl : ¬ 64 < (bys s).length := by rw [bys_len]; exact h64
    have HX := fun w => Exact_any s hs w
    unfold RetXs at HX
    cases hE : exRun exS0 0 (bys s) with
    | inl j =>
      have hn : numR (bys s) = (some 0, 150, (j : Int)) := by
        unfold numR
        rw [if_neg hl, hE]
      rw [hn]
      rw [hE] at HX
      exact rParse_bad s hs j w (hid fun w => (HX w).mono (by
        rintro E w' ⟨ap, np, cp, aq, nq, cq, neg, at_, ok, rfl, hb, rfl, rfl⟩
        exact ⟨_, _, _, _, _, _, _, rfl, hb⟩))
    | inr S =>
      rw [hE] at HX
      by_cases hbad : S.st = 0 ∨ S.st = 1 ∨ S.st = 3 ∨ S.st = 6 ∨ S.st = 7
      · have hn : numR (bys s) = (some 0, 150, (s.size : Int)) := by
          unfold numR
          rw [if_neg hl, hE]
          show (if _ then _ else _) = _
          rw [if_pos hbad, bys_len]
        rw [hn]
        exact rParse_bad s hs s.size w (hid fun w => (HX w).mono (by
          rintro E w' ⟨ap, np, cp, aq, nq, cq, neg, at_, ok, rfl, hb, h⟩
          change (if _ then _ else _) at h
          rw [if_pos hbad, bys_len] at h
          obtain ⟨rfl, rfl⟩ := h
          exact ⟨_, _, _, _, _, _, _, rfl, hb⟩))
      · obtain ⟨k, hk⟩ : ∃ k : Int, k = (if S.nx = true then -(S.ex : Int) else S.ex) + S.pre - S.pl := ⟨_, rfl⟩
        have hok := ex_run_ok _ _ _ 0 _ exOk0 hE
        rw [bys_len] at hok
        have hex : S.ex ≤ 9999 := by
          have h1 := hok.ex
          have h2 : (10 : Nat) ^ S.n ≤ 10 ^ 4 := pw_le hok.n
          omega
        have hpl := hok.pl
        have hp1 := hok.p1
        have hp2 := hok.p2
        have hk1 : -10080 ≤ k ∧ k ≤ 10014 := by rw [hk]; split <;> omega
        have hdg : S.dg < 10 ^ 64 := Nat.lt_of_lt_of_le hok.dg (pw_le (by omega))
        have hn : numR (bys s) = numV S.neg S.dg k := by
          unfold numR
          rw [if_neg hl, hE]
          show (if _ then _ else _) = _
          rw [if_neg hbad, hk]
        rw [hn]
        refine rParse_good s hs S.neg (tenP S.dg k) (tenQ k) (nearW (tenP S.dg k) (tenQ k)) (near_le _ (tenQ_ne k)) w _ _ _ (hid fun w => (HX w).mono (by
            rintro E w' ⟨ap, np, cp, aq, nq, cq, neg, at_, ok, rfl, hb, h⟩
            change (if _ then _ else _) at h
            rw [if_neg hbad, ← hk] at h
            obtain ⟨rfl, rfl, h1, h2⟩ := h
            exact ⟨_, _, _, _, _, _, _, rfl, h1, h2, hb⟩))
          (hid fun w vp vq h1 h2 => (Near_any w vp vq _ _ h1 h2 (tenP_len hdg (Nat.le_refl _) hk1.2) (tenQ_len hk1.1) (tenQ_ne k)).mono (by
            rintro E w' ⟨x, rfl, hx, -, hb⟩
            rw [val_inj hx]
            exact ⟨rfl, hb⟩)) (fun hb => ?_) (fun hb => ?_)
        · unfold numV
          rw [if_pos hb]
          exact ⟨rfl, rfl, rfl⟩
        · unfold numV
          rw [if_neg hb]
          exact ⟨rfl, rfl, rfl⟩
set_option maxRecDepth 100000 in
set_option maxHeartbeats 4000000 in
theorem rNumber_of (s : ByteArray) (a b : Int) (v : Option Nat) (x y : Int) (w : World) (h : ∀ w', Below w.heap.size w w' → Calls Tryz.prog 60 #[.string s] w' (RetNum w' v x y)) : Calls Tryz.prog 30 #[.agg #[.string s, .int .i64 a, .int .i64 b]] w (RetNum w v x y) := by
  have b1 : Below w.heap.size w (w.alloc (.cells #[.string s, .int .i64 a, .int .i64 b] 33)) := (Below.refl _ w).alloc (Nat.le_refl _) _
  have b2 := b1.alloc (Nat.le_trans (Nat.le_refl _) b1.size) (.cells #[.int .i64 0, .int .i64 0] 25)
  have hf := FaultAt.new (w.alloc (.cells #[.string s, .int .i64 a, .int .i64 b] 33)) 0 0
  have h' := hid (h _ b2)
  have hs : (w.alloc (.cells #[.string s, .int .i64 a, .int .i64 b] 33)).heap.size = w.heap.size + 1 := by simp
  rw [hs] at hf
  clear h b1 hs
  go_enter Tryz.func30, Tryz.ntmps30
  go_wp2_with (first
    | (go_at_call 60; go_loud ((with_reducible refine h'.out.mono ?_); rintro E1 w1 ⟨r, rfl, hr, hb⟩; have hf1 := fault_step hf hb; have hb3 := b2.trans (hb.mono b2.size); have c0 := hf1.c0; have c1 := hf1.c1; have f0 := hf1.fr 0; have f1 := hf1.fr 1; clear hf b2 h')))
  refine bodyPost_ret (results_fault rfl _ _ (w.heap.size + 1) x y rfl (hf1.set2 x y)) rfl ?_
  exact ⟨r, rfl, hr, below_set2 hb3 _ _⟩
end Go.Proofs.YtfalbdlfopfgcaaGreatDoor

