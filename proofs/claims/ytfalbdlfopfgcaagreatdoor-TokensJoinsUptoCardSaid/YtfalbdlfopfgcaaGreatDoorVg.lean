/- gridworkref05.Exact: the walk. Condition: a text of at most 64 bytes. -/
import Derived.Test.YtfalbdlfopfgcaaGreatDoorVe
import Derived.Test.YtfalbdlfopfgcaaGreatDoorVf
namespace Go.Proofs.YtfalbdlfopfgcaaGreatDoor
open Go.RowKit

/-- What a state of the reading keeps within bounds. -/
structure ExOk (S : ExS) (j : Nat) : Prop where
  st : S.st ≤ 10
  dg : S.dg < 10 ^ j
  pl : S.pl ≤ j
  n : S.n ≤ 4
  n8 : S.st = 8 → S.n ≤ 3
  n0 : S.st < 8 → S.n = 0
  ex : S.ex < 10 ^ S.n
  p1 : -15 ≤ S.pre
  p2 : S.pre ≤ 15
theorem ex_pos {S : ExS} {c : Nat} (hs : S.st ≤ 10) (h : stepB S.st c = true) : 1 ≤ stepV S.st S.n c ∧ stepV S.st S.n c ≤ 10 ∧ stepV S.st S.n c ≠ 0 := by
  unfold stepB at h
  unfold stepV
  obtain h0 | h0 | h0 | h0 | h0 | h0 | h0 | h0 | h0 | h0 | h0 := (by omega : S.st = 0 ∨ S.st = 1 ∨ S.st = 2 ∨ S.st = 3 ∨ S.st = 4 ∨ S.st = 5 ∨ S.st = 6 ∨ S.st = 7 ∨ S.st = 8 ∨ S.st = 9 ∨ S.st = 10)
  all_goals
    rw [h0] at h ⊢
    simp at h ⊢
    repeat' split
    all_goals first | omega | (simp_all; done)
theorem pw_le {a b : Nat} (h : a ≤ b) : (10 : Nat) ^ a ≤ 10 ^ b := Nat.pow_le_pow_right (by decide) h
/-- A digit: states 2, 5, 8, 9 are entered by one. -/
theorem ex_dig {S : ExS} {c v : Nat} (hs : S.st ≤ 10) (h : stepB S.st c = true) (hv : v = stepV S.st S.n c) : (v = 2 ∨ v = 5 ∨ v = 8 ∨ v = 9 → digB c = true) ∧ (v = 9 → S.n = 3) ∧ (v = 8 → S.st = 6 ∨ S.st = 7 ∨ S.st = 8 ∧ S.n ≠ 3) ∧ (v < 8 → S.st < 8) ∧ (v = 9 → S.st = 8) := by
  unfold stepB at h
  unfold stepV at hv
  cases hd : digB c
  all_goals
    obtain h0 | h0 | h0 | h0 | h0 | h0 | h0 | h0 | h0 | h0 | h0 := (by omega : S.st = 0 ∨ S.st = 1 ∨ S.st = 2 ∨ S.st = 3 ∨ S.st = 4 ∨ S.st = 5 ∨ S.st = 6 ∨ S.st = 7 ∨ S.st = 8 ∨ S.st = 9 ∨ S.st = 10)
  all_goals
    first
      | (exfalso; simp [h0, hd] at h; done)
      | (simp [h0, hd] at hv; subst hv; simp [h0]; done)
      | (simp [h0, hd] at hv h; split at hv <;> (subst hv; simp_all; done))
      | (simp [h0, hd] at hv h; split at hv <;> first | (subst hv; simp_all; done) | (split at hv <;> first | (subst hv; simp_all; done) | (split at hv <;> (subst hv; simp_all; done))))
theorem pfx_bd (c : Nat) : -15 ≤ (pfxK c).getD 0 ∧ (pfxK c).getD 0 ≤ 15 := by
  cases h : pfxK c with
  | none => exact ⟨by decide, by decide⟩
  | some k => exact pfx_b h
theorem mul10_lt {a b d : Nat} (h : a < b) (hd : d ≤ 9) : a * 10 + d < b * 10 := by omega
theorem ex_next {S : ExS} {j c v : Nat} (h : ExOk S j) (hb : stepB S.st c = true) (hv : v = stepV S.st S.n c) : ExOk (exNext S c v) (j + 1) := by
  obtain ⟨p1, p2, p3⟩ := ex_pos h.st hb
  obtain ⟨d1, d2, d3, d4, d5⟩ := ex_dig h.st hb hv
  rw [← hv] at p1 p2 p3
  have hj : (10 : Nat) ^ j ≤ 10 ^ (j + 1) := pw_le (Nat.le_succ j)
  have hdg := Nat.lt_of_lt_of_le h.dg hj
  have hpl := h.pl
  have hn := h.n
  have hn0 := h.n0
  have hex := h.ex
  have hp1 := h.p1
  have hp2 := h.p2
  have hpx := pfx_bd c
  clear hv hb hj
  have hdv : digB c = true → c - 48 ≤ 9 := fun hd => by have := dig_le hd; omega
  obtain rfl | rfl | rfl | rfl | rfl | rfl | rfl | rfl | rfl | rfl := (by omega : v = 1 ∨ v = 2 ∨ v = 3 ∨ v = 4 ∨ v = 5 ∨ v = 6 ∨ v = 7 ∨ v = 8 ∨ v = 9 ∨ v = 10)
  · exact ⟨show 1 ≤ 10 by decide, hdg, by show S.pl ≤ j + 1; omega, hn, fun e => absurd e (show ¬ 1 = 8 by decide), fun _ => hn0 (d4 (by decide)), hex, hp1, hp2⟩
  · have hd := d1 (.inl rfl)
    have e : exNext S c 2 = { S with dg := S.dg * 10 + (c - 48), pl := S.pl + 0, st := 2 } := by unfold exNext; simp [hd]
    rw [e]
    exact ⟨show 2 ≤ 10 by decide, by show S.dg * 10 + (c - 48) < 10 ^ (j + 1); rw [Nat.pow_succ]; exact mul10_lt h.dg (hdv hd), by show S.pl + 0 ≤ j + 1; omega, hn, fun e => absurd e (show ¬ 2 = 8 by decide), fun _ => hn0 (d4 (by decide)), hex, hp1, hp2⟩
  · exact ⟨show 3 ≤ 10 by decide, hdg, by show S.pl ≤ j + 1; omega, hn, fun e => absurd e (show ¬ 3 = 8 by decide), fun _ => hn0 (d4 (by decide)), hex, hp1, hp2⟩
  · exact ⟨show 4 ≤ 10 by decide, hdg, by show S.pl ≤ j + 1; omega, hn, fun e => absurd e (show ¬ 4 = 8 by decide), fun _ => hn0 (d4 (by decide)), hex, hp1, hp2⟩
  · have hd := d1 (.inr (.inl rfl))
    have e : exNext S c 5 = { S with dg := S.dg * 10 + (c - 48), pl := S.pl + 1, st := 5 } := by unfold exNext; simp [hd]
    rw [e]
    exact ⟨show 5 ≤ 10 by decide, by show S.dg * 10 + (c - 48) < 10 ^ (j + 1); rw [Nat.pow_succ]; exact mul10_lt h.dg (hdv hd), by show S.pl + 1 ≤ j + 1; omega, hn, fun e => absurd e (show ¬ 5 = 8 by decide), fun _ => hn0 (d4 (by decide)), hex, hp1, hp2⟩
  · exact ⟨show 6 ≤ 10 by decide, hdg, by show S.pl ≤ j + 1; omega, hn, fun e => absurd e (show ¬ 6 = 8 by decide), fun _ => hn0 (d4 (by decide)), hex, hp1, hp2⟩
  · exact ⟨show 7 ≤ 10 by decide, hdg, by show S.pl ≤ j + 1; omega, hn, fun e => absurd e (show ¬ 7 = 8 by decide), fun _ => hn0 (d4 (by decide)), hex, hp1, hp2⟩
  · have hd := d1 (.inr (.inr (.inl rfl)))
    have h3 : S.n + 1 ≤ 3 := by
      rcases d3 rfl with q | q | ⟨q, q2⟩
      · have := hn0 (by omega); omega
      · have := hn0 (by omega); omega
      · have := h.n8 q; omega
    exact ⟨show 8 ≤ 10 by decide, hdg, by show S.pl ≤ j + 1; omega, by show S.n + 1 ≤ 4; omega, fun _ => h3, fun e => absurd e (show ¬ 8 < 8 by decide), by show 10 * S.ex + (c - 48) < 10 ^ (S.n + 1); rw [Nat.pow_succ, Nat.mul_comm 10]; exact mul10_lt hex (hdv hd), hp1, hp2⟩
  · have hd := d1 (.inr (.inr (.inr rfl)))
    have h3 := d2 rfl
    exact ⟨show 9 ≤ 10 by decide, hdg, by show S.pl ≤ j + 1; omega, by show S.n + 1 ≤ 4; omega, fun e => absurd e (show ¬ 9 = 8 by decide), fun e => absurd e (show ¬ 9 < 8 by decide), by show 10 * S.ex + (c - 48) < 10 ^ (S.n + 1); rw [Nat.pow_succ, Nat.mul_comm 10]; exact mul10_lt hex (hdv hd), hp1, hp2⟩
  · exact ⟨show 10 ≤ 10 by decide, hdg, by show S.pl ≤ j + 1; omega, hn, fun e => absurd e (show ¬ 10 = 8 by decide), fun e => absurd e (show ¬ 10 < 8 by decide), hex, hpx.1, hpx.2⟩
/-- Where the reading stands. -/
structure ExAt (w : World) (s : ByteArray) (j : Nat) (S : ExS) (v : Value) (w' : World) : Prop where
  run : exRun exS0 0 (bys s) = exRun S j ((bys s).drop j)
  ok : ExOk S j
  le : j ≤ s.size
  box : IntB w' (w.heap.size + 1) (.bool false) v
  dg : Wn w' v S.dg
  rat : RatB w' w.heap.size (.bool false) (.slice none 0 0) (.bool false) (.slice none 0 0)
  bl : Below w.heap.size w w'
/-- What Exact hands back. -/
def RetXs (w : World) (l : List Nat) (E : Ending) (w' : World) : Prop := ∃ ap np cp aq nq cq neg at_ ok, E = .returned (.tuple #[.agg #[.bool false, .slice ap np cp, .bool false, .slice aq nq cq], .bool neg, .int .i64 at_, .bool ok]) ∧ Below w.heap.size w w' ∧
  match exRun exS0 0 l with
  | .inl j => ok = false ∧ at_ = (j : Int)
  | .inr S => if S.st = 0 ∨ S.st = 1 ∨ S.st = 3 ∨ S.st = 6 ∨ S.st = 7 then ok = false ∧ at_ = (l.length : Int) else
    ok = true ∧ neg = S.neg ∧ Wn w' (.slice ap np cp) (tenP S.dg ((if S.nx = true then -(S.ex : Int) else S.ex) + S.pre - S.pl)) ∧ Wn w' (.slice aq nq cq) (tenQ ((if S.nx = true then -(S.ex : Int) else S.ex) + S.pre - S.pl))
theorem results_ex {fn : Func} (h : fn.results = #[.cell 2 104, .tmp 3, .tmp 4, .tmp 5]) (tmps : Array Value) (w : World) (b : Nat) (x0 y0 x1 y1 : Value) (hp : tmps.getD 2 undef = .pointer (some ⟨b, 0, none⟩)) (hb : RatB w b x0 y0 x1 y1) : (results fn tmps).run Tryz.prog w = .ok (.tuple #[.agg #[x0, y0, x1, y1], tmps.getD 3 undef, tmps.getD 4 undef, tmps.getD 5 undef]) w := by
  have c0 := hb.c0
  have c1 := hb.c1
  have c2 := hb.c2
  have c3 := hb.c3
  simp only [Array.getD_eq_getD_getElem?] at hp ⊢
  simp [results, h, hp, go_sem, c0, c1, c2, c3, Sem.run_bind, Result.andThen]
theorem RatB.oth {w : World} {b b' : Nat} {x0 y0 x1 y1 : Value} (h : RatB w b x0 y0 x1 y1) (hne : b ≠ b') (u v : Value) : RatB ((w.setCell ⟨b', 0, none⟩ u).setCell ⟨b', 1, none⟩ v) b x0 y0 x1 y1 := by
  unfold RatB at *
  rw [Below.heap_setCell _ _ _ _ hne, Below.heap_setCell _ _ _ _ hne]
  exact h
theorem dg_len {a j : Nat} (h : a < 10 ^ j) : (wds a).length ≤ j := wds_len a j (Nat.lt_of_lt_of_le h (Nat.pow_le_pow_left (by decide) j))
set_option maxRecDepth 100000 in
set_option maxHeartbeats 8000000 in
theorem Exact_any (s : ByteArray) (hs : s.size ≤ 64) (w : World) : Calls Tryz.prog 85 #[.string s] w (RetXs w (bys s)) := by
  have i0 := (RatB.new w (.bool false) (.slice none 0 0) (.bool false) (.slice none 0 0))
  have i1 := IntB.new (w.alloc (.cells #[.bool false, .slice none 0 0, .bool false, .slice none 0 0] 104)) (.bool false) (.slice none 0 0)
  have b1 : Below w.heap.size w ((w.alloc (.cells #[.bool false, .slice none 0 0, .bool false, .slice none 0 0] 104)).alloc (.cells #[.bool false, .slice none 0 0] 85)) := bla _ (bla _ (Below.refl _ _))
  rw [World.size_alloc] at i1
  have i2 : RatB ((w.alloc (.cells #[.bool false, .slice none 0 0, .bool false, .slice none 0 0] 104)).alloc (.cells #[.bool false, .slice none 0 0] 85)) w.heap.size (.bool false) (.slice none 0 0) (.bool false) (.slice none 0 0) := i0.below (bla _ (Below.refl _ _))
  have HSt := hid fun st n c hst w => step_any st n c hst w
  have HDg := hid fun c w => digit_any c w
  have HPx := hid fun c w => rPrefix_any c w
  have HOf10 := hid fun w => Of_10 w
  have H0 := hid (show ExAt w s 0 exS0 (.slice none 0 0) _ from ⟨by rw [List.drop_zero], ⟨by decide, by decide, by decide, by decide, fun e => absurd e (by decide), fun _ => rfl, by decide, by decide, by decide⟩, Nat.zero_le _, i1, by unfold Wn; rw [show exS0.dg = 0 from rfl, wds_0]; exact Sl.nil _, i2, b1⟩)
  clear i0 i1 i2 b1
  go_enter Tryz.func85, Tryz.ntmps85
  go_wp2
  obtain ⟨w1, hw1⟩ : ∃ w1, w1 = ((w.alloc (.cells #[.bool false, .slice none 0 0, .bool false, .slice none 0 0] 104)).alloc (.cells #[.bool false, .slice none 0 0] 85)) := ⟨_, rfl⟩
  rw [← hw1] at H0 ⊢
  clear hw1
  go_loopw [6, 7, 9, 10, 11, 12, 13, 14] (fun st n pl ex ng nx pr i w' => ∃ (j st' n' dg' pl' ex' : Nat) (ng' nx' : Bool) (pr' : Int) (v : Value), st = .int .i64 (st' : Int) ∧ n = .int .i64 (n' : Int) ∧ pl = .int .i64 (pl' : Int) ∧ ex = .int .i64 (ex' : Int) ∧ ng = .bool ng' ∧ nx = .bool nx' ∧ pr = .int .i64 pr' ∧ i = .int .i64 (j : Int) ∧ ExAt w s j ⟨st', n', dg', pl', ex', ng', nx', pr'⟩ v w') (fun _ _ _ _ _ _ _ i _ => s.size + 1 - (intOf i).toNat)
  case atStart => exact ⟨0, 0, 0, 0, 0, 0, false, false, 0, _, rfl, rfl, rfl, rfl, rfl, rfl, rfl, rfl, H0.out⟩
  case round =>
    obtain ⟨j, st, n, dg, pl, ex, ng, nx, pr, v, rfl, rfl, rfl, rfl, rfl, rfl, rfl, rfl, hE⟩ := hrel
    clear H0
    have hst := hE.ok.st
    have hjle := hE.le
    have hr := hE.rat
    have HE := hid hE
    by_cases hj : j < s.size
    · have e1 : (j : Int) < (s.size : Int) := by omega
      obtain ⟨c, hc⟩ : ∃ c, (bys s)[j]? = some c := ⟨(bys s)[j]'(by rw [bys_len]; exact hj), List.getElem?_eq_getElem _⟩
      obtain ⟨kk, ek, -⟩ := bys_get hc
      have hdrop : (bys s).drop j = c :: (bys s).drop (j + 1) := by
        rw [List.drop_eq_getElem_cons (by rw [bys_len]; exact hj)]
        congr 1
        exact (List.getElem?_eq_some_iff.1 hc).2
      have HS := hid fun w => HSt.out st n c hst w
      cases hB : stepB st c with
      | false =>
        have hrun : Hid (exRun exS0 0 (bys s) = .inl j) := hid (by
          rw [hE.run, hdrop]
          exact exRun_bad _ hB)
        have HS2 : Hid (∀ w, Calls Tryz.prog 103 #[.int .i64 (st : Int), .int .i64 (n : Int), .int .u8 c] w fun e w' => e = .returned (.tuple #[.int .i64 (stepV st n c : Nat), .bool false]) ∧ Below w.heap.size w w') := hid fun w => by have := HS.out w; rw [hB] at this; exact this
        clear hc hdrop hB hE HS hst
        go_wp2_with (first
          | (go_at_call 103; go_loud ((with_reducible refine (HS2.out _).mono ?_); rintro E1 w2 ⟨rfl, hb1⟩; have hr2 := hr.below hb1; have c0 := hr2.c0; have c1 := hr2.c1; have c2 := hr2.c2; have c3 := hr2.c3; have f0 := hr2.fr 0; have f1 := hr2.fr 1; have f2 := hr2.fr 2; have f3 := hr2.fr 3)))
        refine bodyPost_ret (results_ex rfl _ _ w.heap.size _ _ _ _ rfl (hr2.set4 _ _ _ _)) rfl ?_
        refine ⟨_, _, _, _, _, _, _, _, _, rfl, below_set4 (bl2 HE.out.bl hb1) (Nat.le_refl _) _ _ _ _, ?_⟩
        rw [hrun.out]
        exact ⟨rfl, rfl⟩
      | true =>
        obtain ⟨v', hv'⟩ : ∃ v', v' = stepV st n c := ⟨_, rfl⟩
        have HS2 : Hid (∀ w, Calls Tryz.prog 103 #[.int .i64 (st : Int), .int .i64 (n : Int), .int .u8 c] w fun e w' => e = .returned (.tuple #[.int .i64 (v' : Nat), .bool true]) ∧ Below w.heap.size w w') := hid fun w => by have := HS.out w; rw [hB, ← hv'] at this; exact this
        obtain ⟨q1, q2, -⟩ := ex_pos (S := ⟨st, n, dg, pl, ex, ng, nx, pr⟩) hst hB
        have hdd := (ex_dig (S := ⟨st, n, dg, pl, ex, ng, nx, pr⟩) hst hB hv').1
        have hnx := hid (ex_next (S := ⟨st, n, dg, pl, ex, ng, nx, pr⟩) hE.ok hB hv')
        have hrn := hid (show exRun exS0 0 (bys s) = exRun (exNext ⟨st, n, dg, pl, ex, ng, nx, pr⟩ c v') (j + 1) ((bys s).drop (j + 1)) by rw [hE.run, hdrop, exRun_one _ hB, hv'])
        change 1 ≤ stepV st n c at q1
        change stepV st n c ≤ 10 at q2
        rw [← hv'] at q1 q2
        have hn4 : n ≤ 4 := hE.ok.n
        have hexl : ex ≤ 9999 := by
          have h1 : ex < 10 ^ n := hE.ok.ex
          have h2 : (10 : Nat) ^ n ≤ 10 ^ 4 := pw_le hn4
          omega
        have hj' : j + 1 ≤ s.size := hj
        have hpl : pl ≤ j := hE.ok.pl
        clear hc hdrop hB hE HS hst hv' HSt
        obtain rfl | rfl | rfl | rfl | rfl | rfl | rfl | rfl | rfl | rfl := (by omega : v' = 1 ∨ v' = 2 ∨ v' = 3 ∨ v' = 4 ∨ v' = 5 ∨ v' = 6 ∨ v' = 7 ∨ v' = 8 ∨ v' = 9 ∨ v' = 10)
        · clear hdd
          go_wp2_with (first
            | (go_at_call 103; (with_reducible refine (HS2.out _).mono ?_); rintro E1 w2 ⟨rfl, hb1⟩))
          go_roundw
          case rel => exact ⟨j + 1, 1, n, dg, pl, ex, true, nx, pr, v, by go_num, rfl, rfl, rfl, rfl, rfl, rfl, by go_num, ⟨hrn.out, hnx.out, hj', HE.out.box.below hb1, HE.out.dg.below hb1, HE.out.rat.below hb1, bl2 HE.out.bl hb1⟩⟩
          case measure => simp [intOf]; omega
        · have hd := hdd (by decide)
          have hdl := dig_le hd
          have HD2 : Hid (∀ w, Calls Tryz.prog 104 #[.int .u8 c] w fun e w' => e = .returned (.bool true) ∧ w' = w) := hid fun w => by have := HDg.out c w; rw [hd] at this; exact this
          obtain ⟨m, hm⟩ : ∃ m, m = c - 48 := ⟨_, rfl⟩
          have g1 : (c : Int) - 48 = (m : Int) := by omega
          have hml : m ≤ 9 := by omega
          have g5 : IntKind.u8.wrap (m : Int) = (m : Int) := by rw [IntKind.wrap_u8]; omega
          have g6 : IntKind.u64.wrap (m : Int) = (m : Int) := by rw [IntKind.wrap_u64]; omega
          have hvd : Wn wr v dg := HE.out.dg
          obtain ⟨xa, xc, rfl⟩ := hvd.sl
          have hl1 : (wds dg).length ≤ j := dg_len HE.out.ok.dg
          have hl2 : (wds (dg * 10)).length ≤ j + 1 := dg_len (by rw [Nat.pow_succ]; exact mul10_lt (d := 0) HE.out.ok.dg (by decide))
          have hl3 : (wds 10).length ≤ 1 := wds_len 10 1 (by decide)
          have hl4 : (wds m).length ≤ 1 := wds_len m 1 (by omega)
          have HM := hid fun (w' : World) (u : Value) (h1 : Wn w' (.slice xa (wds dg).length xc) dg) (h2 : Wn w' u 10) => wMul_any w' _ u dg 10 h1 h2 (by omega) (by omega)
          have HO := hid fun w' => wOf_any w' m (by unfold IsW; omega)
          have HA := hid fun (w' : World) (u1 u2 : Value) (h1 : Wn w' u1 (dg * 10)) (h2 : Wn w' u2 m) => wAdd_any w' u1 u2 (dg * 10) m h1 h2 (by omega) (by omega)
          obtain ⟨D, hD⟩ : ∃ D, D = dg * 10 + m := ⟨_, rfl⟩
          rw [← hD] at HA
          have hxn : Hid (exNext ⟨st, n, dg, pl, ex, ng, nx, pr⟩ c 2 = ⟨2, n, D, pl, ex, ng, nx, pr⟩) := hid (by unfold exNext; simp [hd, hD, hm])
          have hbx := HE.out.bl.size
          clear hdd hd hdl hm hD hl1 hl2 hl3 hl4 hexl hvd
          go_wp2_with (first
            | (go_at_call 103; go_loud ((with_reducible refine (HS2.out _).mono ?_); rintro E1 w2 ⟨rfl, hb1⟩; have k0 := HE.out.box.below hb1; have d0 : Wn w2 (.slice xa (wds dg).length xc) dg := HE.out.dg.below hb1; have a0 := k0.c0; have a1 := k0.c1))
            | (go_at_call 104; (with_reducible refine (HD2.out _).mono ?_); rintro E2 w9 ⟨rfl, rfl⟩))
          go_region_law (go_simp; first
            | (go_at_call 50; (with_reducible refine (HOf10.out _).mono ?_); rintro E4 w4 ⟨u4, rfl, hu4, hb4⟩; have k1 := k0.below (w' := w4) (by (repeat (first | with_reducible exact Below.refl _ _ | with_reducible refine bla _ ?_ | with_reducible refine bld ?_ | with_reducible refine bldn ?_ _ | (with_reducible refine bl2 ?_ (by assumption))))); have a2 := k1.c0; have a3 := k1.c1)
            | (go_at_call 50; (with_reducible refine (HO.out _).mono ?_); rintro E6 w6 ⟨u6, rfl, hu6, hb6⟩; have k3 := k0.below (w' := w6) (by (repeat (first | with_reducible exact Below.refl _ _ | with_reducible refine bla _ ?_ | with_reducible refine bld ?_ | with_reducible refine bldn ?_ _ | (with_reducible refine bl2 ?_ (by assumption))))); have r2 := k3.c0; have r3 := k3.c1)
            | (go_at_call 79; (with_reducible refine (HM.out _ _ (d0.below (by (repeat (first | with_reducible exact Below.refl _ _ | with_reducible refine bla _ ?_ | with_reducible refine bld ?_ | with_reducible refine bldn ?_ _ | (with_reducible refine bl2 ?_ (by assumption)))))) (hu4.below (by (repeat (first | with_reducible exact Below.refl _ _ | with_reducible refine bla _ ?_ | with_reducible refine bld ?_ | with_reducible refine bldn ?_ _ | (with_reducible refine bl2 ?_ (by assumption))))))).mono ?_); rintro E5 w5 ⟨u5, rfl, hu5, hb5⟩; have k2 := k0.below (w' := w5) (by (repeat (first | with_reducible exact Below.refl _ _ | with_reducible refine bla _ ?_ | with_reducible refine bld ?_ | with_reducible refine bldn ?_ _ | (with_reducible refine bl2 ?_ (by assumption))))); have e2 := k2.c0; have e3 := k2.c1)
            | (go_at_call 105; (with_reducible refine (HA.out _ _ _ (hu5.below (by (repeat (first | with_reducible exact Below.refl _ _ | with_reducible refine bla _ ?_ | with_reducible refine bld ?_ | with_reducible refine bldn ?_ _ | (with_reducible refine bl2 ?_ (by assumption)))))) (hu6.below (by (repeat (first | with_reducible exact Below.refl _ _ | with_reducible refine bla _ ?_ | with_reducible refine bld ?_ | with_reducible refine bldn ?_ _ | (with_reducible refine bl2 ?_ (by assumption))))))).mono ?_); rintro E7 w7 ⟨u7, rfl, hu7, hb7⟩; obtain ⟨ya, yc, rfl⟩ := hu7.sl; have k4 := k0.below (w' := w7) (by (repeat (first | with_reducible exact Below.refl _ _ | with_reducible refine bla _ ?_ | with_reducible refine bld ?_ | with_reducible refine bldn ?_ _ | (with_reducible refine bl2 ?_ (by assumption))))); have s2 := k4.c0; have s3 := k4.c1; have s4 := k4.fr 0; have s5 := k4.fr 1))
          all_goals
            have hB8 : Below w9.heap.size w9 w7 := by (repeat (first | with_reducible exact Below.refl _ _ | with_reducible refine bla _ ?_ | with_reducible refine bld ?_ | with_reducible refine bldn ?_ _ | (with_reducible refine bl2 ?_ (by assumption))))
            have hB7 : Below w.heap.size w w7 := bl2 (bl2 HE.out.bl hb1) hB8
            have z1 := k4.set (.bool false) (.slice ya (wds D).length yc)
            have z2 := Wn.set2 hu7 k4 (fun d e => by cases e) (fun d e => by cases e) false (.slice ya (wds D).length yc)
            have z3 : Below w.heap.size w ((w7.setCell ⟨w.heap.size + 1, 0, none⟩ (.bool false)).setCell ⟨w.heap.size + 1, 1, none⟩ (.slice ya (wds D).length yc)) := below_set2i hB7 (by omega) _ _
            have z4 := ((HE.out.rat.below hb1).below hB8).oth (show w.heap.size ≠ w.heap.size + 1 by omega) (.bool false) (.slice ya (wds D).length yc)
            clear a0 a1 a2 a3 r2 r3 e2 e3 s2 s3 s4 s5 hr
            go_wp2
            go_roundw
            case rel => exact ⟨j + 1, 2, n, D, pl, ex, ng, nx, pr, _, by go_num, rfl, rfl, rfl, rfl, rfl, rfl, by go_num, ⟨by rw [hrn.out, hxn.out], by rw [← hxn.out]; exact hnx.out, hj', z1, z2, z4, z3⟩⟩
            case measure => simp [intOf]; omega
        · clear hdd
          go_wp2_with (first
            | (go_at_call 103; (with_reducible refine (HS2.out _).mono ?_); rintro E1 w2 ⟨rfl, hb1⟩))
          go_roundw
          case rel => exact ⟨j + 1, 3, n, dg, pl, ex, ng, nx, pr, v, by go_num, rfl, rfl, rfl, rfl, rfl, rfl, by go_num, ⟨hrn.out, hnx.out, hj', HE.out.box.below hb1, HE.out.dg.below hb1, HE.out.rat.below hb1, bl2 HE.out.bl hb1⟩⟩
          case measure => simp [intOf]; omega
        · clear hdd
          go_wp2_with (first
            | (go_at_call 103; (with_reducible refine (HS2.out _).mono ?_); rintro E1 w2 ⟨rfl, hb1⟩))
          go_roundw
          case rel => exact ⟨j + 1, 4, n, dg, pl, ex, ng, nx, pr, v, by go_num, rfl, rfl, rfl, rfl, rfl, rfl, by go_num, ⟨hrn.out, hnx.out, hj', HE.out.box.below hb1, HE.out.dg.below hb1, HE.out.rat.below hb1, bl2 HE.out.bl hb1⟩⟩
          case measure => simp [intOf]; omega
        · have hd := hdd (by decide)
          have hdl := dig_le hd
          have HD2 : Hid (∀ w, Calls Tryz.prog 104 #[.int .u8 c] w fun e w' => e = .returned (.bool true) ∧ w' = w) := hid fun w => by have := HDg.out c w; rw [hd] at this; exact this
          obtain ⟨m, hm⟩ : ∃ m, m = c - 48 := ⟨_, rfl⟩
          have g1 : (c : Int) - 48 = (m : Int) := by omega
          have hml : m ≤ 9 := by omega
          have g5 : IntKind.u8.wrap (m : Int) = (m : Int) := by rw [IntKind.wrap_u8]; omega
          have g6 : IntKind.u64.wrap (m : Int) = (m : Int) := by rw [IntKind.wrap_u64]; omega
          have hvd : Wn wr v dg := HE.out.dg
          obtain ⟨xa, xc, rfl⟩ := hvd.sl
          have hl1 : (wds dg).length ≤ j := dg_len HE.out.ok.dg
          have hl2 : (wds (dg * 10)).length ≤ j + 1 := dg_len (by rw [Nat.pow_succ]; exact mul10_lt (d := 0) HE.out.ok.dg (by decide))
          have hl3 : (wds 10).length ≤ 1 := wds_len 10 1 (by decide)
          have hl4 : (wds m).length ≤ 1 := wds_len m 1 (by omega)
          have HM := hid fun (w' : World) (u : Value) (h1 : Wn w' (.slice xa (wds dg).length xc) dg) (h2 : Wn w' u 10) => wMul_any w' _ u dg 10 h1 h2 (by omega) (by omega)
          have HO := hid fun w' => wOf_any w' m (by unfold IsW; omega)
          have HA := hid fun (w' : World) (u1 u2 : Value) (h1 : Wn w' u1 (dg * 10)) (h2 : Wn w' u2 m) => wAdd_any w' u1 u2 (dg * 10) m h1 h2 (by omega) (by omega)
          obtain ⟨D, hD⟩ : ∃ D, D = dg * 10 + m := ⟨_, rfl⟩
          rw [← hD] at HA
          have hxn : Hid (exNext ⟨st, n, dg, pl, ex, ng, nx, pr⟩ c 5 = ⟨5, n, D, pl + 1, ex, ng, nx, pr⟩) := hid (by unfold exNext; simp [hd, hD, hm])
          have hbx := HE.out.bl.size
          clear hdd hd hdl hm hD hl1 hl2 hl3 hl4 hexl hvd
          go_wp2_with (first
            | (go_at_call 103; go_loud ((with_reducible refine (HS2.out _).mono ?_); rintro E1 w2 ⟨rfl, hb1⟩; have k0 := HE.out.box.below hb1; have d0 : Wn w2 (.slice xa (wds dg).length xc) dg := HE.out.dg.below hb1; have a0 := k0.c0; have a1 := k0.c1))
            | (go_at_call 104; (with_reducible refine (HD2.out _).mono ?_); rintro E2 w9 ⟨rfl, rfl⟩))
          go_region_law (go_simp; first
            | (go_at_call 50; (with_reducible refine (HOf10.out _).mono ?_); rintro E4 w4 ⟨u4, rfl, hu4, hb4⟩; have k1 := k0.below (w' := w4) (by (repeat (first | with_reducible exact Below.refl _ _ | with_reducible refine bla _ ?_ | with_reducible refine bld ?_ | with_reducible refine bldn ?_ _ | (with_reducible refine bl2 ?_ (by assumption))))); have a2 := k1.c0; have a3 := k1.c1)
            | (go_at_call 50; (with_reducible refine (HO.out _).mono ?_); rintro E6 w6 ⟨u6, rfl, hu6, hb6⟩; have k3 := k0.below (w' := w6) (by (repeat (first | with_reducible exact Below.refl _ _ | with_reducible refine bla _ ?_ | with_reducible refine bld ?_ | with_reducible refine bldn ?_ _ | (with_reducible refine bl2 ?_ (by assumption))))); have r2 := k3.c0; have r3 := k3.c1)
            | (go_at_call 79; (with_reducible refine (HM.out _ _ (d0.below (by (repeat (first | with_reducible exact Below.refl _ _ | with_reducible refine bla _ ?_ | with_reducible refine bld ?_ | with_reducible refine bldn ?_ _ | (with_reducible refine bl2 ?_ (by assumption)))))) (hu4.below (by (repeat (first | with_reducible exact Below.refl _ _ | with_reducible refine bla _ ?_ | with_reducible refine bld ?_ | with_reducible refine bldn ?_ _ | (with_reducible refine bl2 ?_ (by assumption))))))).mono ?_); rintro E5 w5 ⟨u5, rfl, hu5, hb5⟩; have k2 := k0.below (w' := w5) (by (repeat (first | with_reducible exact Below.refl _ _ | with_reducible refine bla _ ?_ | with_reducible refine bld ?_ | with_reducible refine bldn ?_ _ | (with_reducible refine bl2 ?_ (by assumption))))); have e2 := k2.c0; have e3 := k2.c1)
            | (go_at_call 105; (with_reducible refine (HA.out _ _ _ (hu5.below (by (repeat (first | with_reducible exact Below.refl _ _ | with_reducible refine bla _ ?_ | with_reducible refine bld ?_ | with_reducible refine bldn ?_ _ | (with_reducible refine bl2 ?_ (by assumption)))))) (hu6.below (by (repeat (first | with_reducible exact Below.refl _ _ | with_reducible refine bla _ ?_ | with_reducible refine bld ?_ | with_reducible refine bldn ?_ _ | (with_reducible refine bl2 ?_ (by assumption))))))).mono ?_); rintro E7 w7 ⟨u7, rfl, hu7, hb7⟩; obtain ⟨ya, yc, rfl⟩ := hu7.sl; have k4 := k0.below (w' := w7) (by (repeat (first | with_reducible exact Below.refl _ _ | with_reducible refine bla _ ?_ | with_reducible refine bld ?_ | with_reducible refine bldn ?_ _ | (with_reducible refine bl2 ?_ (by assumption))))); have s2 := k4.c0; have s3 := k4.c1; have s4 := k4.fr 0; have s5 := k4.fr 1))
          all_goals
            have hB8 : Below w9.heap.size w9 w7 := by (repeat (first | with_reducible exact Below.refl _ _ | with_reducible refine bla _ ?_ | with_reducible refine bld ?_ | with_reducible refine bldn ?_ _ | (with_reducible refine bl2 ?_ (by assumption))))
            have hB7 : Below w.heap.size w w7 := bl2 (bl2 HE.out.bl hb1) hB8
            have z1 := k4.set (.bool false) (.slice ya (wds D).length yc)
            have z2 := Wn.set2 hu7 k4 (fun d e => by cases e) (fun d e => by cases e) false (.slice ya (wds D).length yc)
            have z3 : Below w.heap.size w ((w7.setCell ⟨w.heap.size + 1, 0, none⟩ (.bool false)).setCell ⟨w.heap.size + 1, 1, none⟩ (.slice ya (wds D).length yc)) := below_set2i hB7 (by omega) _ _
            have z4 := ((HE.out.rat.below hb1).below hB8).oth (show w.heap.size ≠ w.heap.size + 1 by omega) (.bool false) (.slice ya (wds D).length yc)
            clear a0 a1 a2 a3 r2 r3 e2 e3 s2 s3 s4 s5 hr
            go_wp2
            go_roundw
            case rel => exact ⟨j + 1, 5, n, D, pl + 1, ex, ng, nx, pr, _, by go_num, rfl, by go_num, rfl, rfl, rfl, rfl, by go_num, ⟨by rw [hrn.out, hxn.out], by rw [← hxn.out]; exact hnx.out, hj', z1, z2, z4, z3⟩⟩
            case measure => simp [intOf]; omega
        · clear hdd
          go_wp2_with (first
            | (go_at_call 103; (with_reducible refine (HS2.out _).mono ?_); rintro E1 w2 ⟨rfl, hb1⟩))
          go_roundw
          case rel => exact ⟨j + 1, 6, n, dg, pl, ex, ng, nx, pr, v, by go_num, rfl, rfl, rfl, rfl, rfl, rfl, by go_num, ⟨hrn.out, hnx.out, hj', HE.out.box.below hb1, HE.out.dg.below hb1, HE.out.rat.below hb1, bl2 HE.out.bl hb1⟩⟩
          case measure => simp [intOf]; omega
        · clear hdd
          obtain ⟨b45, hb45⟩ : ∃ b45, b45 = decide (c = 45) := ⟨_, rfl⟩
          have e45 : ((c : Int) == 45) = b45 := by
            rw [hb45]
            by_cases h : c = 45
            · rw [h]; rfl
            · rw [decide_eq_false h]; exact beq_eq_false_iff_ne.2 (by omega)
          have hb45' := hid hb45
          clear hb45
          go_wp2_with (first
            | (go_at_call 103; (with_reducible refine (HS2.out _).mono ?_); rintro E1 w2 ⟨rfl, hb1⟩))
          go_roundw
          case rel => exact ⟨j + 1, 7, n, dg, pl, ex, ng, decide (c = 45), pr, v, by go_num, rfl, rfl, rfl, rfl, by rw [hb45'.out], rfl, by go_num, ⟨hrn.out, hnx.out, hj', HE.out.box.below hb1, HE.out.dg.below hb1, HE.out.rat.below hb1, bl2 HE.out.bl hb1⟩⟩
          case measure => simp [intOf]; omega
        · skip
          have hd := dig_le (hdd (by decide))
          obtain ⟨E2, hE2⟩ : ∃ E2, E2 = 10 * ex + (c - 48) := ⟨_, rfl⟩
          obtain ⟨m, hm⟩ : ∃ m, m = c - 48 := ⟨_, rfl⟩
          have g1 : (c : Int) - 48 = (m : Int) := by omega
          obtain ⟨E1, hE1⟩ : ∃ E1, E1 = 10 * ex := ⟨_, rfl⟩
          have g3 : (10 : Int) * (ex : Int) = (E1 : Int) := by omega
          have g2 : (E1 : Int) + (m : Int) = (E2 : Int) := by omega
          have hE1l : E1 ≤ 99990 := by omega
          have hml : m ≤ 9 := by omega
          replace hE2 := hid hE2
          clear hE1 hm
          go_wp2_with (first
            | (go_at_call 103; (with_reducible refine (HS2.out _).mono ?_); rintro E1 w2 ⟨rfl, hb1⟩))
          go_roundw
          case rel => exact ⟨j + 1, 8, n + 1, dg, pl, 10 * ex + (c - 48), ng, nx, pr, v, by go_num, by go_num, rfl, by rw [hE2.out], rfl, rfl, rfl, by go_num, ⟨hrn.out, hnx.out, hj', HE.out.box.below hb1, HE.out.dg.below hb1, HE.out.rat.below hb1, bl2 HE.out.bl hb1⟩⟩
          case measure => simp [intOf]; omega
        · skip
          have hd := dig_le (hdd (by decide))
          obtain ⟨E2, hE2⟩ : ∃ E2, E2 = 10 * ex + (c - 48) := ⟨_, rfl⟩
          obtain ⟨m, hm⟩ : ∃ m, m = c - 48 := ⟨_, rfl⟩
          have g1 : (c : Int) - 48 = (m : Int) := by omega
          obtain ⟨E1, hE1⟩ : ∃ E1, E1 = 10 * ex := ⟨_, rfl⟩
          have g3 : (10 : Int) * (ex : Int) = (E1 : Int) := by omega
          have g2 : (E1 : Int) + (m : Int) = (E2 : Int) := by omega
          have hE1l : E1 ≤ 99990 := by omega
          have hml : m ≤ 9 := by omega
          replace hE2 := hid hE2
          clear hE1 hm
          go_wp2_with (first
            | (go_at_call 103; (with_reducible refine (HS2.out _).mono ?_); rintro E1 w2 ⟨rfl, hb1⟩))
          go_roundw
          case rel => exact ⟨j + 1, 9, n + 1, dg, pl, 10 * ex + (c - 48), ng, nx, pr, v, by go_num, by go_num, rfl, by rw [hE2.out], rfl, rfl, rfl, by go_num, ⟨hrn.out, hnx.out, hj', HE.out.box.below hb1, HE.out.dg.below hb1, HE.out.rat.below hb1, bl2 HE.out.bl hb1⟩⟩
          case measure => simp [intOf]; omega
        · clear hdd
          have HPc := hid fun w => HPx.out c w
          obtain ⟨P, hP⟩ : ∃ P, P = (pfxK c).getD 0 := ⟨_, rfl⟩
          rw [← hP] at HPc
          replace hP := hid hP
          go_wp2_with (first
            | (go_at_call 103; (with_reducible refine (HS2.out _).mono ?_); rintro E1 w2 ⟨rfl, hb1⟩)
            | (go_at_call 106; (with_reducible refine (HPc.out _).mono ?_); rintro E3 w3 ⟨rfl, hb3⟩))
          go_roundw
          case rel => exact ⟨j + 1, 10, n, dg, pl, ex, ng, nx, (pfxK c).getD 0, v, by go_num, rfl, rfl, rfl, rfl, rfl, by rw [hP.out], by go_num, ⟨hrn.out, hnx.out, hj', HE.out.box.below (hb1.trans (hb3.mono hb1.size)), HE.out.dg.below (hb1.trans (hb3.mono hb1.size)), HE.out.rat.below (hb1.trans (hb3.mono hb1.size)), bl2 HE.out.bl (hb1.trans (hb3.mono hb1.size))⟩⟩
          case measure => simp [intOf]; omega
    · obtain rfl : j = s.size := by omega
      have e1 : ¬ (s.size : Int) < (s.size : Int) := by omega
      have hrun : Hid (exRun exS0 0 (bys s) = .inr ⟨st, n, dg, pl, ex, ng, nx, pr⟩) := hid (by
        rw [hE.run, List.drop_of_length_le (by rw [bys_len]; exact Nat.le_refl _)]
        rfl)
      have hd0 : Wn wr v dg := hE.dg
      have hpl : pl ≤ s.size := hE.ok.pl
      have hp1 : -15 ≤ pr := hE.ok.p1
      have hp2 : pr ≤ 15 := hE.ok.p2
      have hn4 : n ≤ 4 := hE.ok.n
      have hexl : ex ≤ 9999 := by
        have h1 : ex < 10 ^ n := hE.ok.ex
        have h2 : (10 : Nat) ^ n ≤ 10 ^ 4 := pw_le hn4
        omega
      have hl1 : (wds dg).length ≤ s.size := dg_len hE.ok.dg
      have hbx := hE.box
      have c0 := hr.c0
      have c1 := hr.c1
      have c2 := hr.c2
      have c3 := hr.c3
      have f0 := hr.fr 0
      have f1 := hr.fr 1
      have f2 := hr.fr 2
      have f3 := hr.fr 3
      by_cases hbad : st = 0 ∨ st = 1 ∨ st = 3 ∨ st = 6 ∨ st = 7
      · have hbad' := hid hbad
        clear hE hn4
        rcases hbad with rfl | rfl | rfl | rfl | rfl
        all_goals
          go_wp2
          refine bodyPost_ret (results_ex rfl _ _ w.heap.size _ _ _ _ rfl (hr.set4 _ _ _ _)) rfl ?_
          refine ⟨_, _, _, _, _, _, _, _, _, rfl, below_set4 HE.out.bl (Nat.le_refl _) _ _ _ _, ?_⟩
          rw [hrun.out]
          show (if _ then _ else _)
          rw [if_pos]
          · rw [bys_len]
            exact ⟨rfl, rfl⟩
          · simp
      · have hbad' := hid hbad
        have hgood : st = 2 ∨ st = 4 ∨ st = 5 ∨ st = 8 ∨ st = 9 ∨ st = 10 := by
          have : st ≤ 10 := hst
          omega
        obtain ⟨x, hx⟩ : ∃ x : Int, x = if nx = true then -(ex : Int) else (ex : Int) := ⟨_, rfl⟩
        have hx1 : -9999 ≤ x ∧ x ≤ 9999 := by rw [hx]; split <;> omega
        obtain ⟨xa, xc, rfl⟩ := hd0.sl
        obtain ⟨P, hP⟩ : ∃ P, P = tenP dg (x + pr - (pl : Int)) := ⟨_, rfl⟩
        obtain ⟨Q', hQ⟩ : ∃ Q', Q' = tenQ (x + pr - (pl : Int)) := ⟨_, rfl⟩
        have HT : Hid (Calls Tryz.prog 49 #[.agg #[.bool false, .slice xa (wds dg).length xc], .int .i64 (x + pr - (pl : Int))] wr (RetRat wr P Q')) := hid (by
          rw [hP, hQ]
          exact rTen_any wr _ dg (x + pr - (pl : Int)) hd0 (by omega) (by omega) (by omega))
        have hP' := hid hP
        have hQ' := hid hQ
        clear hP hQ
        have hx' := hid hx
        have b0 := hbx.c0
        have b1 := hbx.c1
        clear hE hn4 hbad
        cases hnx : nx
        all_goals
          rw [hnx] at hx
          simp at hx
          subst hx
          rcases hgood with rfl | rfl | rfl | rfl | rfl | rfl
        all_goals
          go_upto_region 33 with (fail)
          clear HSt HDg HPx HOf10 hst hx1 e1 hj hjle hd0
          go_wp2_with (go_at_call 49; go_loud ((with_reducible refine HT.out.mono ?_); rintro E1 w2 ⟨vp, vq, rfl, h1, h2, hb⟩; obtain ⟨pa, pc, rfl⟩ := h1.sl; obtain ⟨qa, qc, rfl⟩ := h2.sl; have hr2 := hr.below hb; have d0 := hr2.c0; have d1 := hr2.c1; have d2 := hr2.c2; have d3 := hr2.c3; have g0 := hr2.fr 0; have g1 := hr2.fr 1; have g2 := hr2.fr 2; have g3 := hr2.fr 3; clear c0 c1 c2 c3 f0 f1 f2 f3 b0 b1 hbx))
          refine bodyPost_ret (results_ex rfl _ _ w.heap.size _ _ _ _ rfl (hr2.set4 _ _ _ _)) rfl ?_
          refine ⟨_, _, _, _, _, _, _, _, _, rfl, below_set4 (bl2 HE.out.bl hb) (Nat.le_refl _) _ _ _ _, ?_⟩
          rw [hrun.out]
          show (if _ then _ else _)
          rw [if_neg hbad'.out]
          refine ⟨rfl, rfl, ?_, ?_⟩
          · show Wn _ _ (tenP dg ((if nx = true then -(ex : Int) else (ex : Int)) + pr - (pl : Int)))
            rw [← hx'.out, ← hP'.out]
            exact Wn.set4 h1 hr2 (fun d e => by cases e) (fun d e => by cases e) (fun d e => by cases e) (fun d e => by cases e) false false (fun d e => by cases e)
          · show Wn _ _ (tenQ ((if nx = true then -(ex : Int) else (ex : Int)) + pr - (pl : Int)))
            rw [← hx'.out, ← hQ'.out]
            exact Wn.set4 h2 hr2 (fun d e => by cases e) (fun d e => by cases e) (fun d e => by cases e) (fun d e => by cases e) false false (fun d e => by cases e)
end Go.Proofs.YtfalbdlfopfgcaaGreatDoor

