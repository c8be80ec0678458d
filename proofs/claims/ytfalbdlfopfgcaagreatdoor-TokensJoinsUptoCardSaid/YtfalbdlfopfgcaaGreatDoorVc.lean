/- quantity.Prefix, quantity.cut: walks. Condition: a text of at most 64 bytes. -/
import Derived.Test.YtfalbdlfopfgcaaGreatDoorQaM
import Derived.Test.YtfalbdlfopfgcaaGreatDoorSq
import Derived.Lib.SmallJoins
namespace Go.Proofs.YtfalbdlfopfgcaaGreatDoor
open Go.RowKit

theorem Prefix_any (c : Nat) (w : World) : Calls Tryz.prog 92 #[.int .u8 c] w fun e w' => e = .returned (.tuple #[.int .i64 ((pfxK c).getD 0), .bool (pfxK c).isSome]) ∧ w' = w := by
  obtain ⟨k, hk⟩ : ∃ k, k = (pfxK c).getD 0 := ⟨_, rfl⟩
  obtain ⟨o, ho⟩ : ∃ o, o = (pfxK c).isSome := ⟨_, rfl⟩
  rw [← hk, ← ho]
  by_cases h1 : c = 102 ∨ c = 112 ∨ c = 110 ∨ c = 117 ∨ c = 109 ∨ c = 107 ∨ c = 77 ∨ c = 71 ∨ c = 84
  · rcases h1 with rfl | rfl | rfl | rfl | rfl | rfl | rfl | rfl | rfl
    all_goals
      have hk' := hid hk
      have ho' := hid ho
      clear hk ho
      go_enter Tryz.func92, Tryz.ntmps92
      go_wp2
      go_ret2
      exact ⟨by rw [hk'.out, ho'.out]; rfl, rfl⟩
  · have hn : pfxK c = none := by
      unfold pfxK
      rw [if_neg (by omega), if_neg (by omega), if_neg (by omega), if_neg (by omega), if_neg (by omega), if_neg (by omega), if_neg (by omega), if_neg (by omega), if_neg (by omega)]
    rw [hn] at hk ho
    have hk' := hid hk
    have ho' := hid ho
    have e1 : ((c : Int) == 102) = false := beq_eq_false_iff_ne.2 (by omega)
    have e2 : ((c : Int) == 112) = false := beq_eq_false_iff_ne.2 (by omega)
    have e3 : ((c : Int) == 110) = false := beq_eq_false_iff_ne.2 (by omega)
    have e4 : ((c : Int) == 117) = false := beq_eq_false_iff_ne.2 (by omega)
    have e5 : ((c : Int) == 109) = false := beq_eq_false_iff_ne.2 (by omega)
    have e6 : ((c : Int) == 107) = false := beq_eq_false_iff_ne.2 (by omega)
    have e7 : ((c : Int) == 77) = false := beq_eq_false_iff_ne.2 (by omega)
    have e8 : ((c : Int) == 71) = false := beq_eq_false_iff_ne.2 (by omega)
    have e9 : ((c : Int) == 84) = false := beq_eq_false_iff_ne.2 (by omega)
    clear hk ho h1 hn
    go_enter Tryz.func92, Tryz.ntmps92
    go_wp2
    go_ret2
    exact ⟨by rw [hk'.out, ho'.out]; rfl, rfl⟩
theorem pfx_b {c : Nat} {k : Int} (h : pfxK c = some k) : -15 ≤ k ∧ k ≤ 15 := by
  unfold pfxK at h
  repeat' split at h
  all_goals first | (cases h; omega) | (cases h; done)
theorem digitVal_of {b : UInt8} (h : digB b.toNat = true) : Lib.digitVal b = some (b.toNat - 48) := by
  have := dig_le h
  unfold Lib.digitVal
  rw [if_pos this]
theorem decFrom_of : ∀ (l : List UInt8) (acc : Nat), (∀ c ∈ l.map (·.toNat), digB c = true) → Lib.decFrom acc l = some (acc * 10 ^ l.length + dgv (l.map (·.toNat))) := by
  intro l
  induction l with
  | nil => intro acc _; simp [Lib.decFrom, dgv, dv]
  | cons b l ih =>
    intro acc hc
    have h0 := digitVal_of (hc b.toNat (by simp))
    simp only [Lib.decFrom, h0]
    rw [ih _ (fun c h => hc c (by simp only [List.map_cons]; exact List.mem_cons_of_mem _ h))]
    simp only [List.map_cons, dgv_cons, List.length_cons, List.length_map, Nat.pow_succ]
    congr 1
    generalize 10 ^ l.length = y
    generalize b.toNat - 48 = z
    grind
theorem atoi_of {u : ByteArray} {ds : List Nat} (hu : bys u = ds) (hd : ∀ c ∈ ds, digB c = true) (h0 : ds ≠ []) : Lib.atoi u.data.toList = some (dgv ds : Nat) := by
  subst hu
  unfold bys at hd h0 ⊢
  have hdec := decFrom_of u.data.toList 0 hd
  rw [Nat.zero_mul, Nat.zero_add] at hdec
  generalize u.data.toList = l at *
  cases l with
  | nil => exact absurd rfl h0
  | cons b l =>
    have hb := dig_le (hd b.toNat (by simp))
    have e1 : (b == 45) = false := by
      rw [beq_eq_false_iff_ne]
      rintro rfl
      have : (45 : UInt8).toNat = 45 := rfl
      omega
    have e2 : (b == 43) = false := by
      rw [beq_eq_false_iff_ne]
      rintro rfl
      have : (43 : UInt8).toNat = 43 := rfl
      omega
    simp only [Lib.atoi, e1, e2]
    simp only [Bool.false_eq_true, if_false]
    unfold Lib.decNat
    rw [if_neg (by simp), hdec]
    rfl
/-- What cut tells of a text: where its first byte stands that cannot; or its parts. -/
def QBad (l : List Nat) (j : Nat) : Prop := exRun exS0 0 l = .inl j ∨ ∃ S, exRun exS0 0 l = .inr S ∧ (S.st = 0 ∨ S.st = 1 ∨ S.st = 3 ∨ S.st = 6 ∨ S.st = 7) ∧ j = l.length
def QGood (l : List Nat) (en : Nat) (ex : Int) : Prop := ∃ neg d1 pt d2 rest S, Prt l neg d1 pt d2 rest ∧ d1 ++ d2 ≠ [] ∧ en = (if neg = true then 1 else 0) + (bdy d1 pt d2).length ∧ exRun exS0 0 l = .inr S ∧ ¬ (S.st = 0 ∨ S.st = 1 ∨ S.st = 3 ∨ S.st = 6 ∨ S.st = 7) ∧ S.dg = dgv (d1 ++ d2) ∧ S.pl = d2.length ∧ S.neg = neg ∧ ex = (if S.nx = true then -(S.ex : Int) else S.ex) + S.pre ∧ -10020 ≤ ex ∧ ex ≤ 10020
def QOut (l : List Nat) (en : Nat) (ex at_ : Int) : Prop := (∃ j : Nat, at_ = j ∧ en = 0 ∧ ex = 0 ∧ QBad l j) ∨ (at_ = -1 ∧ QGood l en ex)
theorem trim_len (s : ByteArray) {l1 : List Nat} {neg : Bool} (h : bys s = (if neg = true then [45] else []) ++ l1) (hn : neg = false → l1.head? ≠ some 45) : (ByteArray.mk (Lib.trimPrefix s.data.toList [45]).toArray).size = s.size - (if neg = true then 1 else 0) := by
  have hsz : s.data.toList.length = s.size := Array.length_toList
  show (Lib.trimPrefix s.data.toList [45]).toArray.size = _
  rw [List.size_toArray]
  unfold Lib.trimPrefix Lib.hasPrefix
  unfold bys at h
  cases hl : s.data.toList with
  | nil =>
    rw [hl] at h hsz
    cases neg
    · simp at hsz ⊢
      omega
    · simp at h
  | cons b l =>
    rw [hl] at h hsz
    rw [List.map_cons] at h
    cases neg
    · simp only [Bool.false_eq_true, if_false, List.nil_append] at h
      have h1 := hn rfl
      rw [← h] at h1
      have hb : (b == 45) = false := by
        rw [beq_eq_false_iff_ne]
        rintro rfl
        exact h1 rfl
      have hb' : ((45 : UInt8) == b) = false := by
        rw [beq_eq_false_iff_ne] at hb ⊢
        exact fun e => hb e.symm
      simp only [List.isPrefixOf, hb', Bool.false_and, Bool.false_eq_true, if_false]
      omega
    · simp only [if_true, List.cons_append, List.nil_append, List.cons.injEq] at h
      have hb : b = 45 := UInt8.toNat_inj.1 h.1
      subst hb
      simp [List.isPrefixOf] at hsz ⊢
      omega
theorem prt_len {l : List Nat} {neg : Bool} {d1 : List Nat} {pt : Bool} {d2 rest : List Nat} (h : Prt l neg d1 pt d2 rest) : l.length = (if neg = true then 1 else 0) + (bdy d1 pt d2).length + rest.length ∧ (bdy d1 pt d2).length = d1.length + (if pt = true then 1 + d2.length else 0) := by
  constructor
  · rw [h.e]
    cases neg <;> simp <;> omega
  · unfold bdy
    cases pt <;> simp <;> omega
theorem prt_drop {l : List Nat} {neg : Bool} {d1 : List Nat} {pt : Bool} {d2 rest : List Nat} (h : Prt l neg d1 pt d2 rest) : l.drop (if neg = true then 1 else 0) = bdy d1 pt d2 ++ rest ∧ l.drop ((if neg = true then 1 else 0) + d1.length) = (if pt = true then 46 :: d2 else []) ++ rest ∧ l.drop ((if neg = true then 1 else 0) + (bdy d1 pt d2).length) = rest := by
  have e0 : l.drop (if neg = true then 1 else 0) = bdy d1 pt d2 ++ rest := by
    rw [h.e]
    cases neg <;> simp
  refine ⟨e0, ?_, ?_⟩
  · rw [← List.drop_drop, e0]
    unfold bdy
    rw [List.append_assoc, List.drop_left]
  · rw [← List.drop_drop, e0, List.drop_left]
/-- Between the digits and the prefix. -/
def QMid (w : World) (l : List Nat) (neg : Bool) (d1 d2 : List Nat) (ex i : Value) (w' : World) : Prop := ∃ (j : Nat) (x : Int) (r : List Nat) (S : ExS), i = .int .i64 (j : Int) ∧ ex = .int .i64 x ∧ j ≤ l.length ∧ l.drop j = r ∧ exRun exS0 0 l = exRun S j r ∧ (S.st = 2 ∨ S.st = 4 ∨ S.st = 5 ∨ S.st = 8 ∨ S.st = 9) ∧ (S.st ≠ 9 → ∀ c, r.head? = some c → digB c = false) ∧ (S.st = 2 → r.head? ≠ some 46) ∧ (S.st ≤ 5 → r.head? ≠ some 101 ∧ r.head? ≠ some 69) ∧ S.pre = 0 ∧ S.dg = dgv (d1 ++ d2) ∧ S.pl = d2.length ∧ S.neg = neg ∧ x = (if S.nx = true then -(S.ex : Int) else S.ex) ∧ -9999 ≤ x ∧ x ≤ 9999 ∧ Below w.heap.size w w'
def RetQc (w : World) (l : List Nat) (E : Ending) (w' : World) : Prop := ∃ (en : Nat) (ex at_ : Int), E = .returned (.tuple #[.int .i64 (en : Int), .int .i64 ex, .int .i64 at_]) ∧ QOut l en ex at_ ∧ Below w.heap.size w w'
set_option maxRecDepth 100000 in
set_option maxHeartbeats 4000000 in
theorem qcut_any (s : ByteArray) (hs : s.size ≤ 64) (w : World) : Calls Tryz.prog 67 #[.string s] w (RetQc w (bys s)) := by
  obtain ⟨neg, d1, pt, d2, rest, hP⟩ := prt_ex (bys s)
  obtain ⟨p1, p2⟩ := prt_len hP
  obtain ⟨q1, q2, q3⟩ := prt_drop hP
  rw [bys_len] at p1
  obtain ⟨i0, hi0⟩ : ∃ i0 : Nat, i0 = if neg = true then 1 else 0 := ⟨_, rfl⟩
  have hT := hid fun w => Tryz.strings_TrimPrefix s ⟨#[45]⟩ w
  have hTl := hid (trim_len s (l1 := bdy d1 pt d2 ++ rest) (by rw [hP.e, List.append_assoc]) (fun h => by
    unfold bdy
    cases d1 with
    | nil =>
      cases pt with
      | true => simp
      | false => simpa using hP.hn h rfl rfl
    | cons c d1 =>
      have := dig_le (hP.h1 c List.mem_cons_self)
      simp
      omega))
  rw [← hi0] at p1 q1 q2 q3 hTl
  have hdl : d1.length ≤ (bdy d1 pt d2).length := by rw [p2]; exact Nat.le_add_right _ _
  have hdl2 : pt = true → d2.length ≤ s.size := fun h => by
    rw [if_pos h] at p2
    omega
  obtain ⟨L1, hL1⟩ : ∃ L1, L1 = d1.length := ⟨_, rfl⟩
  obtain ⟨L2, hL2⟩ : ∃ L2, L2 = d2.length := ⟨_, rfl⟩
  obtain ⟨LB, hLB⟩ : ∃ LB, LB = (bdy d1 pt d2).length := ⟨_, rfl⟩
  have n1 : digN ((bys s).drop i0) s.size = L1 := by
    rw [q1, hL1]
    unfold bdy
    rw [List.append_assoc]
    refine digN_law d1 _ _ hP.h1 (by omega) (.inr fun c hc => ?_)
    cases pt
    · simp at hc
      exact hP.hr c hc
    · simp at hc
      subst hc
      rfl
  have n2 : pt = true → digN ((bys s).drop (i0 + L1 + 1)) s.size = L2 := fun h => by
    rw [← List.drop_drop, hL1, q2, h, hL2]
    simp only [if_true, List.cons_append, List.drop_succ_cons, List.drop_zero]
    refine digN_law d2 _ _ hP.h2 (hdl2 h) (.inr hP.hr)
  have HD1 := hid fun w => digits_any s i0 s.size (by omega) (by omega) (by omega) w
  rw [n1] at HD1
  have hb46 : pt = true → (bys s)[i0 + L1]? = some 46 := fun h => by
    have : ((bys s).drop (i0 + L1))[0]? = some 46 := by rw [hL1, q2, h]; simp
    rwa [List.getElem?_drop, Nat.add_zero] at this
  have hbn : pt = false → i0 + L1 < s.size → ∃ c, (bys s)[i0 + L1]? = some c ∧ c ≠ 46 := fun h hlt => by
    refine ⟨(bys s)[i0 + L1]'(by rw [bys_len]; exact hlt), List.getElem?_eq_getElem _, fun hc => ?_⟩
    apply hP.hq h
    have : ((bys s).drop (i0 + L1))[0]? = rest.head? := by rw [hL1, q2, h]; simp [List.head?_eq_getElem?]
    rw [← this, List.getElem?_drop, Nat.add_zero, List.getElem?_eq_getElem (by rw [bys_len]; exact hlt), hc]
  rw [← hL1, ← hL2] at p2
  have hi01 : i0 ≤ 1 := by rw [hi0]; split <;> omega
  have hrest : rest.length = s.size - (i0 + LB) := by omega
  have hLB2 : pt = true ∧ LB = L1 + 1 + L2 ∨ pt = false ∧ LB = L1 ∧ L2 = 0 := by
    cases pt
    · right
      refine ⟨rfl, ?_, ?_⟩
      · simp at p2; omega
      · rw [hL2, hP.hp rfl]; rfl
    · left
      refine ⟨rfl, ?_⟩
      simp at p2
      omega
  have hTl' : Hid (((ByteArray.mk (Lib.trimPrefix s.data.toList [45]).toArray).size : Int) = (s.size : Int) - (i0 : Int)) := hid (by rw [hTl.out]; omega)
  obtain ⟨u, hu⟩ : ∃ u, u = ByteArray.mk (Lib.trimPrefix s.data.toList [45]).toArray := ⟨_, rfl⟩
  have hT2 : Hid (∀ w, Calls Tryz.prog 89 #[.string s, .string ⟨#[45]⟩] w fun e w' => e = .returned (.string u) ∧ w' = w) := hid fun w => by rw [hu]; exact hT.out w
  rw [← hu] at hTl'
  have hTu := hTl'.out
  have ez : (s.size : Int) - (u.size : Int) = (i0 : Int) := by omega
  have hrun := hid (run_prt hP)
  have hP' := hid hP
  have hLL := hid (And.intro hL1 (And.intro hL2 (And.intro hLB hi0)))
  have hq3 := hid q3
  have hp1 := hid p1
  have hLBs : i0 + LB ≤ s.size := by omega
  have hrest' := hid hrest
  clear hT hTl hTl' hTu hu n1 p2 q1 q2 q3 hP hL1 hL2 hi0 hrest p1 hLB hdl hdl2
  go_enter Tryz.func67, Tryz.ntmps67
  go_upto_region 4 with (first
    | (go_at_call 89; (with_reducible refine (hT2.out _).mono ?_); rintro E1 w1 ⟨rfl, rfl⟩)
    | (go_at_call 90; (with_reducible refine (HD1.out _).mono ?_); rintro E1 w1 ⟨rfl, rfl⟩))
  clear ez
  go_cut [36] from 27 to 36 (fun x w' => x = .bool pt ∧ w' = w1)
  case first =>
    cases hpt : pt
    · have hpt' := hid hpt
      rcases Nat.lt_or_ge (i0 + L1) s.size with hlt | hge
      · obtain ⟨c, hc, hne⟩ := hbn hpt hlt
        obtain ⟨kk, ek, -⟩ := bys_get hc
        have e1 : ((i0 + L1 : Nat) : Int) < (s.size : Int) := by omega
        have e2 : ((c : Int) == 46) = false := beq_eq_false_iff_ne.2 (by omega)
        clear hc hpt n2 hb46 hbn hLB2
        go_wp2
        go_meet
        exact ⟨by rw [hpt'.out], rfl⟩
      · have e1 : ¬ (i0 : Int) + (L1 : Int) < (s.size : Int) := by omega
        clear hpt n2 hb46 hbn hLB2
        go_wp2
        go_meet
        exact ⟨by rw [hpt'.out], rfl⟩
    · have hpt' := hid hpt
      obtain ⟨kk, ek, -⟩ := bys_get (hb46 hpt)
      have e1 : ((i0 + L1 : Nat) : Int) < (s.size : Int) := by omega
      clear hpt n2 hb46 hbn hLB2
      go_wp2
      go_meet
      exact ⟨by rw [hpt'.out], rfl⟩
  case rest =>
    obtain ⟨rfl, rfl⟩ := hcut
    go_upto_if 36 with (fail)
    obtain ⟨en, hen⟩ : ∃ en, en = i0 + LB := ⟨_, rfl⟩
    obtain ⟨N, hN⟩ : ∃ N, N = L1 + L2 := ⟨_, rfl⟩
    have hen' := hid hen
    have hN' := hid hN
    clear hen hN
    go_cut [5, 6] from 37 to 49 (fun i n w' => i = .int .i64 (en : Int) ∧ n = .int .i64 (N : Int) ∧ w' = wc)
    case first =>
      rcases hLB2 with ⟨hpt, hlb⟩ | ⟨hpt, hlb, hl2⟩
      · have HD2 := hid fun w => digits_any s (i0 + L1 + 1) s.size (by omega) (by omega) (by omega) w
        rw [n2 hpt] at HD2
        have hlb' := hid hlb
        have HD3 : Hid (∀ w, Calls Tryz.prog 90 #[.string s, .int .i64 ((i0 : Int) + (L1 : Int) + 1), .int .i64 s.size] w fun e w' => e = .returned (.int .i64 (L2 : Nat)) ∧ w' = w) := hid fun w => by have := HD2.out w; rw [Int.natCast_add, Int.natCast_add] at this; exact this
        have hb1 : L2 ≤ 64 := by omega
        have hb2 : L1 ≤ 64 := by omega
        subst hpt
        clear n2 hb46 hbn hlb HD2
        go_wp2_with (first
          | (go_at_call 90; (with_reducible refine (HD3.out _).mono ?_); rintro E1 w1 ⟨rfl, rfl⟩))
        go_meet
        exact ⟨by have := hlb'.out; have := hen'.out; go_num, by have := hN'.out; go_num, rfl⟩
      · subst hpt
        have hlb' := hid hlb
        have hl2' := hid hl2
        clear n2 hb46 hbn hlb hl2
        go_wp2
        go_meet
        exact ⟨by have := hlb'.out; have := hen'.out; go_num, by have := hl2'.out; have := hN'.out; go_num, rfl⟩
    case rest =>
      obtain ⟨rfl, rfl, rfl⟩ := hcut
      have hNo := hN'.out
      have heno := hen'.out
      rw [← heno] at hrest' hLBs
      have hq4 : Hid ((bys s).drop en = rest) := hid (by rw [heno, hLL.out.2.2.1]; exact hq3.out)
      have hrun2 : Hid (exRun exS0 0 (bys s) = exRun ⟨exSt neg d1 pt d2, 0, dgv (d1 ++ d2), d2.length, 0, neg, false, 0⟩ en rest) := hid (by rw [hrun.out, ← hLL.out.2.2.2, ← hLL.out.2.2.1, heno])
      clear n2 hb46 hbn hLB2 hrun hq3
      by_cases hn0 : N = 0
      · have e1 : ((N : Int) == 0) = true := by rw [hn0]; rfl
        have hbad : Hid (QBad (bys s) en) := hid (by
          have hd1 : d1 = [] := List.eq_nil_of_length_eq_zero (by rw [← hLL.out.1]; omega)
          have hd2 : d2 = [] := List.eq_nil_of_length_eq_zero (by rw [← hLL.out.2.1]; omega)
          have hst : exSt neg d1 pt d2 = if pt = true then 3 else if neg = true then 1 else 0 := by
            unfold exSt
            rw [if_pos hd2, if_pos hd1, if_pos hd1]
          have hrq := hrun2.out
          rw [hst] at hrq
          cases hre : rest with
          | nil =>
            rw [hre] at hrq
            right
            refine ⟨_, hrq, ?_, ?_⟩
            · cases pt <;> cases neg <;> simp
            · have := hrest'.out
              rw [hre] at this
              simp at this
              rw [bys_len]
              omega
          | cons c r =>
            left
            rw [hre] at hrq
            rw [hrq]
            apply exRun_bad
            have hc := hP'.out.hr c (by rw [hre]; rfl)
            have h46 := hP'.out.hq
            have h45 := hP'.out.hn
            rw [hre] at h46 h45
            simp at h46 h45
            unfold stepB
            cases pt
            · cases neg
              · simp [hc, h46, h45 rfl hd1]
              · simp [hc, h46]
            · simp [hc])
        clear hn0 hNo heno
        go_wp2
        go_ret3
        exact ⟨0, 0, _, rfl, .inl ⟨en, rfl, rfl, rfl, hbad.out⟩, Below.refl _ _⟩
      · have e1 : ((N : Int) == 0) = false := beq_eq_false_iff_ne.2 (by omega)
        have hne : Hid (d1 ++ d2 ≠ []) := hid (fun h => by
          have := congrArg List.length h
          rw [List.length_append, ← hLL.out.1, ← hLL.out.2.1] at this
          simp at this
          omega)
        clear heno hNo
        go_upto_region 11 with (fail)
        have hst : exSt neg d1 pt d2 = 2 ∧ pt = false ∨ exSt neg d1 pt d2 = 4 ∨ exSt neg d1 pt d2 = 5 := by
          have hd12 : d1 ≠ [] ∨ d2 ≠ [] := by
            by_cases h : d1 = []
            · right
              intro h2
              apply hne.out
              rw [h, h2]
              rfl
            · exact .inl h
          unfold exSt
          cases pt
          · have := hP'.out.hp rfl
            left
            rcases hd12 with h | h
            · simp [h]
            · exact absurd this h
          · right
            by_cases h2 : d2 = []
            · rcases hd12 with h | h
              · simp [h, h2]
              · exact absurd h2 h
            · simp [h2]
        have hst' := hid hst
        have hst2 : Hid (exSt neg d1 pt d2 = 2 → rest.head? ≠ some 46) := hid (fun h => by
          rcases hst with ⟨-, h2⟩ | h2 | h2
          · exact hP'.out.hq h2
          · omega
          · omega)
        obtain ⟨st1, hst1⟩ : ∃ st1, st1 = exSt neg d1 pt d2 := ⟨_, rfl⟩
        rw [← hst1] at hrun2 hst2 hst'
        have hsz := hrest'.out
        clear hn0 hst hst1
        obtain ⟨eb, heb⟩ : ∃ eb : Bool, eb = decide (rest.head? = some 101 ∨ rest.head? = some 69) := ⟨_, rfl⟩
        have heb' := hid heb
        have hq5 := hq4.out
        go_cut [69] from 54 to 69 (fun x w' => x = .bool eb ∧ w' = wc)
        case first =>
          cases hre : rest with
          | nil =>
            rw [hre] at hsz heb
            have e2 : ¬ (en : Int) < (s.size : Int) := by simp at hsz; omega
            have heb2 : Hid (eb = false) := hid (by rw [heb]; rfl)
            clear heb hsz hq5
            go_wp2
            go_meet
            exact ⟨by rw [heb2.out], rfl⟩
          | cons c r1 =>
            rw [hre] at hsz heb hq5
            have hc : (bys s)[en]? = some c := by
              have : ((bys s).drop en)[0]? = some c := by rw [hq5]; rfl
              rwa [List.getElem?_drop, Nat.add_zero] at this
            obtain ⟨kk, ek, -⟩ := bys_get hc
            have e2 : (en : Int) < (s.size : Int) := by omega
            by_cases h101 : c = 101
            · have heb2 : Hid (eb = true) := hid (by rw [heb, h101]; rfl)
              have e3 : ((c : Int) == 101) = true := by rw [h101]; rfl
              clear heb hsz hq5 hc h101 hre
              go_wp2
              go_meet
              exact ⟨by rw [heb2.out], rfl⟩
            · have e3 : ((c : Int) == 101) = false := beq_eq_false_iff_ne.2 (by omega)
              by_cases h69 : c = 69
              · have heb2 : Hid (eb = true) := hid (by rw [heb, h69]; rfl)
                have e4 : ((c : Int) == 69) = true := by rw [h69]; rfl
                clear heb hsz hq5 hc h101 h69 hre
                go_wp2
                go_meet
                exact ⟨by rw [heb2.out], rfl⟩
              · have heb2 : Hid (eb = false) := hid (by rw [heb]; simp [h101, h69])
                have e4 : ((c : Int) == 69) = false := beq_eq_false_iff_ne.2 (by omega)
                clear heb hsz hq5 hc h101 h69 hre
                go_wp2
                go_meet
                exact ⟨by rw [heb2.out], rfl⟩
        case rest =>
          obtain ⟨rfl, rfl⟩ := hcut
          clear heb hsz hq5
          go_upto_if 69 with (fail)
          go_cut [2, 3, 5] from 69 to 119 (fun z ex i w' => z = .int .i64 (en : Int) ∧ QMid wc (bys s) neg d1 d2 ex i w')
          case first =>
            cases hebc : eb
            · have hne1 : ¬ (rest.head? = some 101 ∨ rest.head? = some 69) := by
                have := heb'.out
                rw [hebc] at this
                exact of_decide_eq_false this.symm
              have hm : Hid (QMid wc (bys s) neg d1 d2 (.int .i64 0) (.int .i64 (en : Int)) wc) := hid ⟨en, 0, rest, _, rfl, rfl, by rw [bys_len]; exact hLBs, hq4.out, hrun2.out, by
                rcases hst'.out with ⟨h, -⟩ | h | h <;> simp [h], fun _ => hP'.out.hr, hst2.out, fun _ => ⟨fun h => hne1 (.inl h), fun h => hne1 (.inr h)⟩, rfl, rfl, rfl, rfl, rfl, by omega, by omega, Below.refl _ _⟩
              clear hne1 hebc
              go_wp2
              go_meet
              exact ⟨rfl, hm.out⟩
            · have hne1 : rest.head? = some 101 ∨ rest.head? = some 69 := by
                have := heb'.out
                rw [hebc] at this
                exact of_decide_eq_true this.symm
              obtain ⟨c, r1, hre, hc69⟩ : ∃ c r1, rest = c :: r1 ∧ (c = 101 ∨ c = 69) := by
                cases rest with
                | nil => simp at hne1
                | cons c r1 => exact ⟨c, r1, rfl, by simpa using hne1⟩
              have hsz := hrest'.out
              have hdr := hq4.out
              rw [hre] at hsz hdr
              rw [List.length_cons] at hsz
              have hden : en < s.size := by omega
              have hd0 : (bys s).drop (en + 1) = r1 := by
                rw [← List.drop_drop, hdr]
                rfl
              have hnd : digB c = false := by rcases hc69 with rfl | rfl <;> rfl
              have hrunE : exRun exS0 0 (bys s) = exRun ⟨6, 0, dgv (d1 ++ d2), d2.length, 0, neg, false, 0⟩ (en + 1) r1 := by
                rw [hrun2.out, hre]
                rw [exRun_one _ (by
                  unfold stepB
                  rcases hst'.out with ⟨h, -⟩ | h | h <;> rw [h] <;> rcases hc69 with rfl | rfl <;> simp)]
                have hv : stepV st1 0 c = 6 := by
                  unfold stepV
                  rcases hst'.out with ⟨h, -⟩ | h | h <;> rw [h] <;> rcases hc69 with rfl | rfl <;> simp [digB]
                simp only [hv]
                rfl
              obtain ⟨mb, j1, r2, st2, hcase, hj1, hdr2, hrunS, hst6, hs6⟩ : ∃ (mb : Bool) (j1 : Nat) (r2 : List Nat) (st2 : Nat),
                  ((∃ k : Nat, ∃ hk : en + 1 < s.size, (s[en + 1]'hk).toNat = k ∧ (k = 45 ∧ mb = true ∨ k = 43 ∧ mb = false) ∧ j1 = en + 2) ∨ (mb = false ∧ j1 = en + 1 ∧ (s.size ≤ en + 1 ∨ ∃ k : Nat, ∃ hk : en + 1 < s.size, (s[en + 1]'hk).toNat = k ∧ k ≠ 45 ∧ k ≠ 43))) ∧
                  j1 ≤ s.size ∧ (bys s).drop j1 = r2 ∧ exRun exS0 0 (bys s) = exRun ⟨st2, 0, dgv (d1 ++ d2), d2.length, 0, neg, mb, 0⟩ j1 r2 ∧ (st2 = 6 ∨ st2 = 7) ∧ (st2 = 6 → r2.head? ≠ some 45 ∧ r2.head? ≠ some 43) := by
                cases hr1 : r1 with
                | nil =>
                  rw [hr1] at hsz hd0 hrunE
                  simp at hsz
                  exact ⟨false, en + 1, [], 6, .inr ⟨rfl, rfl, .inl (by omega)⟩, by omega, hd0, hrunE, .inl rfl, fun _ => ⟨by simp, by simp⟩⟩
                | cons x r2 =>
                  rw [hr1] at hsz hd0 hrunE
                  rw [List.length_cons] at hsz
                  have hx : (bys s)[en + 1]? = some x := by
                    have : ((bys s).drop (en + 1))[0]? = some x := by rw [hd0]; rfl
                    rwa [List.getElem?_drop, Nat.add_zero] at this
                  obtain ⟨kk, ek, -⟩ := bys_get hx
                  by_cases hxs : x = 45 ∨ x = 43
                  · refine ⟨decide (x = 45), en + 2, r2, 7, .inl ⟨x, kk, ek, ?_, rfl⟩, by omega, ?_, ?_, .inr rfl, fun h => by cases h⟩
                    · rcases hxs with rfl | rfl
                      · exact .inl ⟨rfl, rfl⟩
                      · exact .inr ⟨rfl, rfl⟩
                    · rw [show en + 2 = en + 1 + 1 by omega, ← List.drop_drop, hd0]
                      rfl
                    · rw [hrunE, exRun_one _ (by rcases hxs with rfl | rfl <;> rfl)]
                      rcases hxs with rfl | rfl <;> rfl
                  · refine ⟨false, en + 1, x :: r2, 6, .inr ⟨rfl, rfl, .inr ⟨x, kk, ek, fun h => hxs (.inl h), fun h => hxs (.inr h)⟩⟩, by omega, hd0, hrunE, .inl rfl, fun _ => ⟨?_, ?_⟩⟩
                    · simpa using fun h => hxs (.inl h)
                    · simpa using fun h => hxs (.inr h)
              obtain ⟨ds, r3, hr2, hds, hds4, hdsr⟩ := span_m 4 r2
              have HD4 : Hid (∀ w, Calls Tryz.prog 90 #[.string s, .int .i64 (j1 : Int), .int .i64 4] w fun e w' => e = .returned (.int .i64 (ds.length : Nat)) ∧ w' = w) := hid fun w => by
                have := digits_any s j1 4 (by omega) hj1 (by omega) w
                rw [hdr2, hr2, digN_law ds r3 4 hds hds4 hdsr] at this
                exact this
              have hlen3 : j1 + ds.length ≤ s.size := by
                have h1 := congrArg List.length hdr2
                rw [hr2, List.length_drop, bys_len, List.length_append] at h1
                omega
              have hu : bys (s.extract j1 (j1 + ds.length)) = ds := by
                rw [bys_ext, ← List.take_drop, hdr2, hr2, List.take_left]
              have husz : (s.extract j1 (j1 + ds.length)).size = ds.length := by rw [← bys_len, hu]
              obtain ⟨k, hk⟩ : ∃ k, k = ds.length := ⟨_, rfl⟩
              have hk' := hid hk
              rw [← hk] at HD4 hlen3 hds4
              have hlow : Hid (∀ (ex : Int), ds = [] → QBad (bys s) j1) := hid (fun _ h0 => by
                rw [h0, List.nil_append] at hr2
                rw [hr2] at hrunS hs6 hdr2
                cases hr3 : r3 with
                | nil =>
                  rw [hr3] at hrunS hdr2
                  right
                  refine ⟨_, hrunS, ?_, ?_⟩
                  · rcases hst6 with h | h <;> simp [h]
                  · have h1 := congrArg List.length hdr2
                    rw [List.length_drop, bys_len] at h1
                    simp at h1
                    rw [bys_len]
                    omega
                | cons x r4 =>
                  left
                  rw [hr3] at hrunS hs6
                  rw [hrunS]
                  apply exRun_bad
                  have hx := hdsr.resolve_left (by rw [h0]; simp) x (by rw [hr3]; rfl)
                  unfold stepB
                  rcases hst6 with h | h
                  · have := hs6 h
                    simp at this
                    rw [h]
                    simp [hx, this.1, this.2]
                  · rw [h]
                    simp [hx])
              have hmid : Hid (ds ≠ [] → ∀ w', Below wc.heap.size wc w' → QMid wc (bys s) neg d1 d2 (.int .i64 (if mb = true then -((dgv ds : Nat) : Int) else ((dgv ds : Nat) : Int))) (.int .i64 ((j1 + k : Nat) : Int)) w') := hid (fun h0 w' hb' => by
                have hrx : exRun exS0 0 (bys s) = exRun ⟨if ds.length = 4 then 9 else 8, ds.length, dgv (d1 ++ d2), d2.length, dgv ds, neg, mb, 0⟩ (j1 + k) r3 := by
                  rw [hrunS, hr2, exRun_app, run_ex ds _ _ hds h0 (.inl ⟨hst6, rfl⟩) (by simp only; omega)]
                  simp only [Nat.zero_mul, Nat.zero_add]
                  rw [hk]
                have hv4 : dgv ds < 10 ^ 4 := by
                  have := dv_lt (ds.map (· - 48)) (fun c hc => by
                    obtain ⟨y, hy, rfl⟩ := List.mem_map.1 hc
                    have := dig_le (hds y hy)
                    omega)
                  rw [List.length_map] at this
                  exact Nat.lt_of_lt_of_le this (Nat.pow_le_pow_right (by decide) (by omega))
                refine ⟨j1 + k, _, r3, _, rfl, rfl, by rw [bys_len]; exact hlen3, ?_, hrx, ?_, ?_, ?_, ?_, rfl, rfl, rfl, rfl, rfl, ?_, ?_, hb'⟩
                · rw [← List.drop_drop, hdr2, hr2, hk, List.drop_left]
                · by_cases h4 : ds.length = 4 <;> simp [h4]
                · intro h9
                  by_cases h4 : ds.length = 4
                  · simp [h4] at h9
                  · exact hdsr.resolve_left h4
                · intro h2
                  by_cases h4 : ds.length = 4 <;> simp [h4] at h2
                · intro h2
                  by_cases h4 : ds.length = 4 <;> simp [h4] at h2
                · split <;> omega
                · split <;> omega)
              have HA := hid (fun (h0 : ds ≠ []) w => Tryz.strconv_Atoi (s.extract j1 (j1 + k)) (dgv ds : Nat) (by rw [hk, husz]; omega) (atoi_of (by rw [hk]; exact hu) hds h0) w)
              have hv4 : Hid (dgv ds ≤ 9999) := hid (by
                have := dv_lt (ds.map (· - 48)) (fun c hc => by
                  obtain ⟨y, hy, rfl⟩ := List.mem_map.1 hc
                  have := dig_le (hds y hy)
                  omega)
                rw [List.length_map] at this
                have := Nat.lt_of_lt_of_le this (Nat.pow_le_pow_right (by decide) (show ds.length ≤ 4 by omega))
                exact Nat.le_of_lt_succ this)
              have hj164 : j1 ≤ 64 := Nat.le_trans hj1 hs
              obtain ⟨vd, hvd⟩ : ∃ vd, vd = dgv ds := ⟨_, rfl⟩
              rw [← hvd] at HA hmid hv4
              have hvd64 := hv4.out
              clear hu husz hrunS hrunE hdr hd0 hnd hne1 hre hc69 hsz hdr2 hr2 hds hdsr hst6 hs6 hebc heb' hvd
              rcases Nat.eq_zero_or_pos k with hk0 | hk0
              · have e6 : ((k : Int) == 0) = true := by rw [hk0]; rfl
                have hbad : Hid (QBad (bys s) j1) := hid (hlow.out 0 (List.eq_nil_of_length_eq_zero (by rw [← hk]; exact hk0)))
                clear HA hmid hlow hk hlen3
                rcases hcase with ⟨x, hx1, hx2, hx3, hj⟩ | ⟨hmb, hj, hno⟩
                · have e1 : (en : Int) + 1 < (s.size : Int) := by omega
                  have e5 : (en : Int) + 1 + 1 = (j1 : Int) := by omega
                  rcases hx3 with ⟨rfl, rfl⟩ | ⟨rfl, rfl⟩
                  all_goals
                    clear hj hk0
                    skip
                    go_wp2_with (first
                      | (go_at_call 90; (with_reducible refine (HD4.out _).mono ?_); rintro E1 w1 ⟨rfl, rfl⟩))
                    go_ret3
                    exact ⟨0, 0, _, rfl, .inl ⟨j1, rfl, rfl, rfl, hbad.out⟩, Below.refl _ _⟩
                · have e5 : (en : Int) + 1 = (j1 : Int) := by omega
                  subst hmb
                  rcases hno with hge | ⟨x, hx1, hx2, hx3, hx4⟩
                  · have e1 : ¬ (en : Int) + 1 < (s.size : Int) := by omega
                    clear hj hk0 hge
                    skip
                    go_wp2_with (first
                      | (go_at_call 90; (with_reducible refine (HD4.out _).mono ?_); rintro E1 w1 ⟨rfl, rfl⟩))
                    go_ret3
                    exact ⟨0, 0, _, rfl, .inl ⟨j1, rfl, rfl, rfl, hbad.out⟩, Below.refl _ _⟩
                  · have e1 : (j1 : Int) < (s.size : Int) := by omega
                    obtain ⟨hy1, hy2⟩ : ∃ h : j1 < s.size, (s[j1]'h).toNat = x := by subst hj; exact ⟨hx1, hx2⟩
                    have e7 : ((x : Int) == 45) = false := beq_eq_false_iff_ne.2 (by omega)
                    have e8 : ((x : Int) == 43) = false := beq_eq_false_iff_ne.2 (by omega)
                    clear hj hk0 hx3 hx4 hx2 hx1
                    skip
                    go_wp2_with (first
                      | (go_at_call 90; (with_reducible refine (HD4.out _).mono ?_); rintro E1 w1 ⟨rfl, rfl⟩))
                    go_ret3
                    exact ⟨0, 0, _, rfl, .inl ⟨j1, rfl, rfl, rfl, hbad.out⟩, Below.refl _ _⟩
              · have e6 : ((k : Int) == 0) = false := beq_eq_false_iff_ne.2 (by omega)
                have hdne : ds ≠ [] := fun h => by
                  rw [h] at hk
                  simp at hk
                  omega
                have HA2 := hid (HA.out hdne)
                have hm1 := hid (hmid.out hdne)
                have b1 : (j1 : Int) + (k : Int) ≤ (s.size : Int) := by omega
                clear HA hmid hlow hk hlen3 hdne
                rcases hcase with ⟨x, hx1, hx2, hx3, hj⟩ | ⟨hmb, hj, hno⟩
                · have e1 : (en : Int) + 1 < (s.size : Int) := by omega
                  have e5 : (en : Int) + 1 + 1 = (j1 : Int) := by omega
                  rcases hx3 with ⟨rfl, rfl⟩ | ⟨rfl, rfl⟩
                  all_goals
                    clear hj hk0
                    have hm2 := hm1.out
                    rw [Int.natCast_add] at hm2
                    first | rw [if_pos rfl] at hm2 | rw [if_neg (by decide)] at hm2
                    replace hm2 := hid hm2
                    go_wp2_with (first
                      | (go_at_call 90; (with_reducible refine (HD4.out _).mono ?_); rintro E1 w1 ⟨rfl, rfl⟩)
                      | (go_at_call 91; (with_reducible refine (HA2.out _).mono ?_); rintro E2 w2 ⟨rfl, tb, rfl⟩))
                    go_meet
                    exact ⟨rfl, hm2.out _ (Go.Joins.below_bytesWorld _ _ _ _ (Nat.le_refl _))⟩
                · have e5 : (en : Int) + 1 = (j1 : Int) := by omega
                  subst hmb
                  rcases hno with hge | ⟨x, hx1, hx2, hx3, hx4⟩
                  · have e1 : ¬ (en : Int) + 1 < (s.size : Int) := by omega
                    clear hj hk0 hge
                    have hm2 := hm1.out
                    rw [Int.natCast_add] at hm2
                    first | rw [if_pos rfl] at hm2 | rw [if_neg (by decide)] at hm2
                    replace hm2 := hid hm2
                    go_wp2_with (first
                      | (go_at_call 90; (with_reducible refine (HD4.out _).mono ?_); rintro E1 w1 ⟨rfl, rfl⟩)
                      | (go_at_call 91; (with_reducible refine (HA2.out _).mono ?_); rintro E2 w2 ⟨rfl, tb, rfl⟩))
                    go_meet
                    exact ⟨rfl, hm2.out _ (Go.Joins.below_bytesWorld _ _ _ _ (Nat.le_refl _))⟩
                  · have e1 : (j1 : Int) < (s.size : Int) := by omega
                    obtain ⟨hy1, hy2⟩ : ∃ h : j1 < s.size, (s[j1]'h).toNat = x := by subst hj; exact ⟨hx1, hx2⟩
                    have e7 : ((x : Int) == 45) = false := beq_eq_false_iff_ne.2 (by omega)
                    have e8 : ((x : Int) == 43) = false := beq_eq_false_iff_ne.2 (by omega)
                    clear hj hk0 hx3 hx4 hx2 hx1
                    have hm2 := hm1.out
                    rw [Int.natCast_add] at hm2
                    first | rw [if_pos rfl] at hm2 | rw [if_neg (by decide)] at hm2
                    replace hm2 := hid hm2
                    go_wp2_with (first
                      | (go_at_call 90; (with_reducible refine (HD4.out _).mono ?_); rintro E1 w1 ⟨rfl, rfl⟩)
                      | (go_at_call 91; (with_reducible refine (HA2.out _).mono ?_); rintro E2 w2 ⟨rfl, tb, rfl⟩))
                    go_meet
                    exact ⟨rfl, hm2.out _ (Go.Joins.below_bytesWorld _ _ _ _ (Nat.le_refl _))⟩
          case rest =>
            obtain ⟨rfl, j, x, r, S, rfl, rfl, k1, k2, k3, k4, k5, k6, k7, k8, k9, k10, k11, k12, k13, k14, k15⟩ := hcut
            rw [bys_len] at k1
            have hen2 : Hid (en = (if neg = true then 1 else 0) + (bdy d1 pt d2).length) := hid (by rw [hen'.out, ← hLL.out.2.2.2, ← hLL.out.2.2.1])
            have HT := run_tail j k4 k5 k6 k7 k8 x
            have hlen := congrArg List.length k2
            rw [List.length_drop, bys_len] at hlen
            have hK : Hid (∀ S' : ExS, exRun exS0 0 (bys s) = .inr S' → (S'.st = 2 ∨ S'.st = 4 ∨ S'.st = 5 ∨ S'.st = 8 ∨ S'.st = 9 ∨ S'.st = 10) → S'.dg = S.dg → S'.pl = S.pl → S'.ex = S.ex → S'.neg = S.neg → S'.nx = S.nx → -15 ≤ S'.pre → S'.pre ≤ 15 → QGood (bys s) en (x + S'.pre)) := hid (fun S' a1 a2 a3 a4 a5 a6 a7 a8 a9 => by
              refine ⟨neg, d1, pt, d2, rest, S', hP'.out, hne.out, hen2.out, a1, ?_, by rw [a3, k9], by rw [a4, k10], by rw [a6, k11], ?_, by omega, by omega⟩
              · rcases a2 with h | h | h | h | h | h <;> omega
              · rw [a5, a7, ← k12])
            have hb15 := hid k15
            have hr3 := hid k3
            clear k4 k5 k6 k7 k8 k9 k10 k11 k12 k15
            have hen64 : en ≤ 64 := by omega
            cases hr : r with
            | nil =>
              rw [hr] at HT hlen k3
              rcases HT with ⟨jj, h1, -⟩ | ⟨-, S', h2, h3, h4, h5, h6, h7, h8, h9⟩
              · cases h1
              · have h9' : S'.pre = 0 := by simp [qtail] at h9; omega
                have hg : Hid (QGood (bys s) en x) := hid (by
                  have := hK.out S' (k3.trans h2) h3 h4 h5 h6 h7 h8 (by omega) (by omega)
                  rwa [h9', Int.add_zero] at this)
                have e2 : ¬ (j : Int) < (s.size : Int) := by simp at hlen; omega
                clear h2 h3 h4 h5 h6 h7 h8 h9 h9' hlen k2 k3 hr
                go_wp2
                go_ret3
                exact ⟨en, x, -1, rfl, .inr ⟨rfl, hg.out⟩, hb15.out⟩
            | cons c r4 =>
              rw [hr] at HT hlen k3 k2
              rw [List.length_cons] at hlen
              have hc : (bys s)[j]? = some c := by
                have : ((bys s).drop j)[0]? = some c := by rw [k2]; rfl
                rwa [List.getElem?_drop, Nat.add_zero] at this
              obtain ⟨kk, ek, -⟩ := bys_get hc
              have e2 : (j : Int) < (s.size : Int) := by omega
              have HPx := hid fun w => Prefix_any c w
              cases hpk : pfxK c with
              | none =>
                have HP2 : Hid (∀ w, Calls Tryz.prog 92 #[.int .u8 c] w fun e w' => e = .returned (.tuple #[.int .i64 0, .bool false]) ∧ w' = w) := hid (fun w => by have := HPx.out w; rw [hpk] at this; exact this)
                have hbad : Hid (QBad (bys s) j) := hid (by
                  rcases HT with ⟨jj, h1, h2⟩ | ⟨h1, -⟩
                  · simp [qtail, hpk] at h1
                    rw [← h1] at h2
                    exact .inl (k3.trans h2)
                  · simp [qtail, hpk] at h1)
                clear HT hlen k2 k3 hr hc hpk HPx
                go_wp2_with (first
                  | (go_at_call 92; (with_reducible refine (HP2.out _).mono ?_); rintro E1 w9 ⟨rfl, rfl⟩))
                go_ret3
                exact ⟨0, 0, _, rfl, .inl ⟨j, rfl, rfl, rfl, hbad.out⟩, hb15.out⟩
              | some k =>
                have HP2 : Hid (∀ w, Calls Tryz.prog 92 #[.int .u8 c] w fun e w' => e = .returned (.tuple #[.int .i64 k, .bool true]) ∧ w' = w) := hid (fun w => by have := HPx.out w; rw [hpk] at this; exact this)
                have hk15 := pfx_b hpk
                cases hr4 : r4 with
                | nil =>
                  rw [hr4] at HT hlen
                  have e3 : ¬ (j : Int) + 1 < (s.size : Int) := by simp at hlen; omega
                  rcases HT with ⟨jj, h1, -⟩ | ⟨-, S', h2, h3, h4, h5, h6, h7, h8, h9⟩
                  · simp [qtail, hpk] at h1
                  · have h9' : S'.pre = k := by simp [qtail, hpk] at h9; omega
                    have hg : Hid (QGood (bys s) en (x + k)) := hid (by
                      have := hK.out S' (by rw [k3, hr4]; exact h2) h3 h4 h5 h6 h7 h8 (by omega) (by omega)
                      rwa [h9'] at this)
                    clear h2 h3 h4 h5 h6 h7 h8 h9 h9' hlen k2 k3 hr hr4 hc hpk HPx
                    go_wp2_with (first
                      | (go_at_call 92; (with_reducible refine (HP2.out _).mono ?_); rintro E1 w9 ⟨rfl, rfl⟩))
                    go_ret3
                    exact ⟨en, x + k, -1, rfl, .inr ⟨rfl, hg.out⟩, hb15.out⟩
                | cons y r5 =>
                  rw [hr4] at HT hlen
                  rw [List.length_cons] at hlen
                  have e3 : (j : Int) + 1 < (s.size : Int) := by omega
                  have hbad : Hid (QBad (bys s) (j + 1)) := hid (by
                    rcases HT with ⟨jj, h1, h2⟩ | ⟨h1, -⟩
                    · simp [qtail, hpk] at h1
                      rw [← h1] at h2
                      exact .inl (by rw [k3, hr4]; exact h2)
                    · simp [qtail, hpk] at h1)
                  clear HT hlen k2 k3 hr hr4 hc hpk HPx
                  go_wp2_with (first
                    | (go_at_call 92; (with_reducible refine (HP2.out _).mono ?_); rintro E1 w9 ⟨rfl, rfl⟩))
                  go_ret3
                  exact ⟨0, 0, _, rfl, .inl ⟨j + 1, by go_num, rfl, rfl, hbad.out⟩, hb15.out⟩
end Go.Proofs.YtfalbdlfopfgcaaGreatDoor

