/- What internal/strconv.readFloat reads, plainly; readFloat. Condition: the text is digits with at most one point, an e, an exponent's digits. -/
import Derived.Test.YtfalbdlfopfgcaaGreatDoorPaM
namespace Go.Proofs.YtfalbdlfopfgcaaGreatDoor
open Go.RowKit

/-- What is read so far: the mantissa, digits, digits in the mantissa, the point's place; point? digit? cut? -/
structure RdS where
  man : Nat
  nd : Nat
  nm : Nat
  dp : Int
  dot : Bool
  dig : Bool
  cut : Bool
def rd0 : RdS := ⟨0, 0, 0, 0, false, false, false⟩
def rdStep (s : RdS) (c : Nat) : RdS :=
  if c = 46 then { s with dot := true, dp := s.nd }
  else if c = 48 ∧ s.nd = 0 then { s with dig := true, dp := s.dp - 1 }
  else if s.nm < 19 then { s with dig := true, nd := s.nd + 1, nm := s.nm + 1, man := s.man * 10 + (c - 48) }
  else { s with dig := true, nd := s.nd + 1, cut := s.cut || c != 48 }
def rdB (b : List Nat) : RdS := b.foldl rdStep rd0
def exStep (e : Int) (c : Nat) : Int := if e < 10000 then e * 10 + c - 48 else e
def exV (b : List Nat) : Int := b.foldl exStep 0
/-- The bytes of a text. -/
def bys (s : ByteArray) : List Nat := s.data.toList.map (·.toNat)
theorem bys_len (s : ByteArray) : (bys s).length = s.size := by
  unfold bys
  rw [List.length_map]
  exact Array.length_toList
theorem bys_get {s : ByteArray} {k m : Nat} (h : (bys s)[k]? = some m) : ∃ hk : k < s.size, (s[k]'hk).toNat = m ∧ m < 256 := by
  unfold bys at h
  rw [List.getElem?_map] at h
  obtain ⟨c, hc, rfl⟩ := Option.map_eq_some_iff.1 h
  have hk : k < s.size := by
    have := (List.getElem?_eq_some_iff.1 hc).1
    rwa [Array.length_toList] at this
  refine ⟨hk, ?_, c.toNat_lt⟩
  have h2 : s.data.toList[k]? = some (s[k]'hk) := by
    rw [Array.getElem?_toList]
    exact Array.getElem?_eq_getElem hk
  rw [h2] at hc
  cases hc
  rfl
def digB (c : Nat) : Bool := decide (48 ≤ c) && decide (c ≤ 57)
theorem lower_v (c : Int) (m : Nat) (hc : c = (m : Int)) (h : digB m = true ∨ m = 46 ∨ m = 101) (w : World) : Calls Tryz.prog 167 #[.int .u8 c] w fun e w' => e = .returned (.int .u8 m) ∧ w' = w := by
  subst hc
  have h2 : ∀ m : Fin 256, (digB m.val = true ∨ m.val = 46 ∨ m.val = 101) → bits .or .u8 (m.val : Int) 32 = (m.val : Int) := by decide +kernel
  have hm : m < 256 := by
    rcases h with h | h | h
    · unfold digB at h; simp at h; omega
    · omega
    · omega
  have g := h2 ⟨m, hm⟩ h
  dsimp only at g
  clear h2 h
  go_enter Tryz.func167, Tryz.ntmps167
  go_wp2
  go_ret
  exact ⟨rfl, rfl⟩
theorem rdStep_inv {s : RdS} {n c : Nat} (hc : digB c = true ∨ c = 46) (h : s.man < 10 ^ s.nm ∧ s.nm ≤ 19 ∧ s.nm ≤ s.nd ∧ s.nd ≤ n ∧ -(n : Int) ≤ s.dp ∧ s.dp ≤ n) : (rdStep s c).man < 10 ^ (rdStep s c).nm ∧ (rdStep s c).nm ≤ 19 ∧ (rdStep s c).nm ≤ (rdStep s c).nd ∧ (rdStep s c).nd ≤ n + 1 ∧ -((n + 1 : Nat) : Int) ≤ (rdStep s c).dp ∧ (rdStep s c).dp ≤ ((n + 1 : Nat) : Int) := by
  obtain ⟨h1, h2, h3, h4, h5, h6⟩ := h
  unfold rdStep
  split
  · exact ⟨h1, h2, h3, by show s.nd ≤ n + 1; omega, by show -((n + 1 : Nat) : Int) ≤ (s.nd : Int); omega, by show (s.nd : Int) ≤ ((n + 1 : Nat) : Int); omega⟩
  · rename_i hne
    have hd : digB c = true := hc.resolve_right hne
    unfold digB at hd
    simp at hd
    split
    · exact ⟨h1, h2, h3, by show s.nd ≤ n + 1; omega, by show -((n + 1 : Nat) : Int) ≤ s.dp - 1; omega, by show s.dp - 1 ≤ ((n + 1 : Nat) : Int); omega⟩
    · split
      · refine ⟨?_, by show s.nm + 1 ≤ 19; omega, by show s.nm + 1 ≤ s.nd + 1; omega, by show s.nd + 1 ≤ n + 1; omega, by show -((n + 1 : Nat) : Int) ≤ s.dp; omega, by show s.dp ≤ ((n + 1 : Nat) : Int); omega⟩
        show s.man * 10 + (c - 48) < 10 ^ (s.nm + 1)
        rw [Nat.pow_succ]
        omega
      · exact ⟨h1, h2, by show s.nm ≤ s.nd + 1; omega, by show s.nd + 1 ≤ n + 1; omega, by show -((n + 1 : Nat) : Int) ≤ s.dp; omega, by show s.dp ≤ ((n + 1 : Nat) : Int); omega⟩
theorem rdB_snoc (b : List Nat) (c : Nat) : rdB (b ++ [c]) = rdStep (rdB b) c := by unfold rdB; rw [List.foldl_append]; rfl
theorem take_snc {l : List Nat} {k c : Nat} (h : l[k]? = some c) : l.take (k + 1) = l.take k ++ [c] := by rw [List.take_add_one, h]; rfl
theorem rdB_inv {b : List Nat} (hb : ∀ c ∈ b, digB c = true ∨ c = 46) : ∀ k, k ≤ b.length → (rdB (b.take k)).man < 10 ^ (rdB (b.take k)).nm ∧ (rdB (b.take k)).nm ≤ 19 ∧ (rdB (b.take k)).nm ≤ (rdB (b.take k)).nd ∧ (rdB (b.take k)).nd ≤ k ∧ -(k : Int) ≤ (rdB (b.take k)).dp ∧ (rdB (b.take k)).dp ≤ k := by
  intro k
  induction k with
  | zero => intro _; rw [List.take_zero]; exact ⟨by decide, by decide, by decide, by decide, by decide, by decide⟩
  | succ k ih =>
    intro hk
    obtain ⟨c, hc⟩ : ∃ c, b[k]? = some c := ⟨b[k]'(by omega), List.getElem?_eq_getElem (by omega)⟩
    rw [take_snc hc, rdB_snoc]
    exact rdStep_inv (hb c (List.mem_of_getElem? hc)) (ih (by omega))
theorem rdB_dot (b : List Nat) : ∀ k, k ≤ b.length → (rdB (b.take k)).dot = decide (46 ∈ b.take k) := by
  intro k
  induction k with
  | zero => intro _; rw [List.take_zero]; rfl
  | succ k ih =>
    intro hk
    obtain ⟨c, hc⟩ : ∃ c, b[k]? = some c := ⟨b[k]'(by omega), List.getElem?_eq_getElem (by omega)⟩
    have ih := ih (by omega)
    rw [take_snc hc, rdB_snoc]
    unfold rdStep
    split
    · rename_i h; simp [h]
    · rename_i h
      split
      · simp [ih, Ne.symm h]
      · split
        · simp [ih, Ne.symm h]
        · simp [ih, Ne.symm h]
theorem exV_b {b : List Nat} (hb : ∀ c ∈ b, digB c = true) : ∀ k, k ≤ b.length → 0 ≤ exV (b.take k) ∧ exV (b.take k) ≤ 100009 := by
  intro k
  induction k with
  | zero => intro _; rw [List.take_zero]; exact ⟨by decide, by decide⟩
  | succ k ih =>
    intro hk
    obtain ⟨c, hc⟩ : ∃ c, b[k]? = some c := ⟨b[k]'(by omega), List.getElem?_eq_getElem (by omega)⟩
    have h := ih (by omega)
    have hc2 := hb c (List.mem_of_getElem? hc)
    unfold digB at hc2
    simp at hc2
    rw [take_snc hc]
    have e : exV (b.take k ++ [c]) = exStep (exV (b.take k)) c := by unfold exV; rw [List.foldl_append]; rfl
    rw [e]
    generalize exV (b.take k) = x at h ⊢
    unfold exStep
    split <;> omega
theorem exV_snoc (b : List Nat) (c : Nat) : exV (b ++ [c]) = exStep (exV b) c := by unfold exV; rw [List.foldl_append]; rfl
def RdLoop (w : World) (i0 : Nat) (body : List Nat) (man cut i us dot dig nd nm dp : Value) (w' : World) : Prop := ∃ k : Nat, k ≤ body.length ∧ us = .bool false ∧ i = .int .i64 ((i0 + k : Nat) : Int) ∧ man = .int .u64 ((rdB (body.take k)).man : Nat) ∧ cut = .bool (rdB (body.take k)).cut ∧ dot = .bool (rdB (body.take k)).dot ∧ dig = .bool (rdB (body.take k)).dig ∧ nd = .int .i64 ((rdB (body.take k)).nd : Nat) ∧ nm = .int .i64 ((rdB (body.take k)).nm : Nat) ∧ dp = .int .i64 (rdB (body.take k)).dp ∧ w' = w
def ExLoop (w : World) (i1 : Nat) (ds : List Nat) (i us e : Value) (w' : World) : Prop := ∃ k : Nat, k ≤ ds.length ∧ us = .bool false ∧ i = .int .i64 ((i1 + k : Nat) : Int) ∧ e = .int .i64 (exV (ds.take k)) ∧ w' = w
theorem results_tmp7 {fn : Func} {a b c d e f g : Tmp} (h : fn.results = #[.tmp a, .tmp b, .tmp c, .tmp d, .tmp e, .tmp f, .tmp g]) (tmps : Array Value) (P : Program) (w : World) :
    (results fn tmps).run P w = .ok (.tuple #[tmps.getD a undef, tmps.getD b undef, tmps.getD c undef, tmps.getD d undef, tmps.getD e undef, tmps.getD f undef, tmps.getD g undef]) w := by
  simp [results, h, go_sem]
set_option maxRecDepth 100000 in
set_option maxHeartbeats 4000000 in
theorem readFloat_p (s : ByteArray) (neg : Bool) (body sg ds : List Nat) (hs : bys s = (if neg then [45] else []) ++ body ++ [101] ++ sg ++ ds) (hb : ∀ c ∈ body, digB c = true ∨ c = 46) (hb1 : body ≠ []) (hd : ∀ c ∈ ds, digB c = true) (hd0 : ds ≠ []) (hsg : sg = [] ∨ sg = [45]) (hlen : s.size ≤ 200) (hdg : (rdB body).dig = true) (hdot : body.count 46 ≤ 1) (hng : neg = false) (w : World) :
    Calls Tryz.prog 143 #[.string s] w fun e w' => e = .returned (.tuple #[.int .u64 (rdB body).man, .int .i64 (if (rdB body).man = 0 then 0 else (if (rdB body).dot then (rdB body).dp else (rdB body).nd) + (if sg = [] then exV ds else -exV ds) - (rdB body).nm), .bool neg, .bool (rdB body).cut, .bool false, .int .i64 s.size, .bool true]) ∧ w' = w := by
  obtain ⟨i0, hi0⟩ : ∃ i0 : Nat, i0 = if neg then 1 else 0 := ⟨_, rfl⟩
  have hget : ∀ k c, body[k]? = some c → (bys s)[i0 + k]? = some c := fun k c h => by
    have hk := (List.getElem?_eq_some_iff.1 h).1
    rw [hs, hi0]
    cases neg
    · simp only [Bool.false_eq_true, if_false, List.nil_append, Nat.zero_add, List.append_assoc]
      rw [List.getElem?_append_left hk]
      exact h
    · simp only [if_true, List.append_assoc]
      rw [List.getElem?_append_right (by simp), List.getElem?_append_left (by simpa using hk)]
      simpa using h
  have hgE : (bys s)[i0 + body.length]? = some 101 := by
    rw [hs, hi0]
    cases neg
    · simp
    · simp [Nat.add_comm 1]
  have hgS : sg = [45] → (bys s)[i0 + body.length + 1]? = some 45 := fun h => by
    rw [hs, hi0, h]
    cases neg
    · simp
    · simp [Nat.add_comm 1]
  have hgD : ∀ k c, ds[k]? = some c → (bys s)[i0 + body.length + 1 + sg.length + k]? = some c := fun k c h => by
    rw [hs, hi0]
    rw [List.getElem?_append_right (by cases neg <;> simp <;> omega)]
    rw [← h]
    congr 1
    cases neg <;> simp <;> omega
  have hlenS : s.size = i0 + body.length + 1 + sg.length + ds.length := by
    rw [← bys_len, hs, hi0]
    cases neg <;> simp <;> omega
  have hbl : 1 ≤ body.length := List.length_pos_iff.2 hb1
  have hdl : 1 ≤ ds.length := List.length_pos_iff.2 hd0
  obtain ⟨c0, hc0⟩ : ∃ c, body[0]? = some c := ⟨body[0]'(by omega), List.getElem?_eq_getElem (by omega)⟩
  have hc0b := hb c0 (List.mem_of_getElem? hc0)
  have h0 := hget 0 c0 hc0
  obtain ⟨c1, h1, hc1⟩ : ∃ c1, (bys s)[i0 + 1]? = some c1 ∧ (digB c1 = true ∨ c1 = 46 ∨ c1 = 101) := by
    by_cases h2 : 2 ≤ body.length
    · obtain ⟨c, hc⟩ : ∃ c, body[1]? = some c := ⟨body[1]'(by omega), List.getElem?_eq_getElem (by omega)⟩
      refine ⟨c, hget 1 c hc, ?_⟩
      rcases hb c (List.mem_of_getElem? hc) with h | h
      · exact .inl h
      · exact .inr (.inl h)
    · rw [show body.length = 1 by omega] at hgE
      exact ⟨101, hgE, .inr (.inr rfl)⟩
  have g2 : ((c0 : Int) == 43) = false := by rcases hc0b with h | h <;> (unfold digB at *; simp at *; omega)
  have g3 : ((c0 : Int) == 45) = false := by rcases hc0b with h | h <;> (unfold digB at *; simp at *; omega)
  have g4 : ((c1 : Int) == 120) = false := by rcases hc1 with h | h | h <;> (unfold digB at *; simp at *; omega)
  have HLw := hid fun w => lower_v (c1 : Int) c1 rfl hc1 w
  obtain ⟨k0, e0, -⟩ := bys_get h0
  obtain ⟨k1, e1, -⟩ := bys_get h1
  have gi0 : (i0 : Int) < (s.size : Int) := by omega
  have gi2 : (i0 : Int) + 2 < (s.size : Int) := by omega
  have hi01 : i0 ≤ 1 := by rw [hi0]; split <;> omega
  have hemp : (s = ByteArray.empty) = False := by
    simp only [eq_iff_iff, iff_false]
    intro h
    rw [h] at hlenS
    simp at hlenS
    omega
  replace hlenS := hid hlenS
  replace hs := hid hs
  subst hng
  simp only [Bool.false_eq_true, if_false] at hi0
  subst hi0
  simp only [Nat.zero_add] at e0 e1 k0 k1
  go_enter Tryz.func143, Tryz.ntmps143
  go_wp2
  go_step3
  go_upto_region 12 with (fail)
  go_cut [54] from 36 to 53 (fun x wx => x = .bool false ∧ wx = w)
  case first =>
    by_cases hz : c0 = 48
    · have g5 : ((c0 : Int) == 48) = true := by simp [hz]
      clear hz
      go_wp2_with (go_at_call 167; (with_reducible refine (HLw.out _).mono ?_); rintro E1 w1 ⟨rfl, rfl⟩)
      go_meet
      exact ⟨rfl, rfl⟩
    · have g5 : ((c0 : Int) == 48) = false := by simp; omega
      clear hz
      go_wp2
      go_meet
      exact ⟨rfl, rfl⟩
  obtain ⟨rfl, rfl⟩ := hcut
  clear h0 h1 hc0b hc0 hc1 e0 e1 g2 g3 g4 HLw k0 k1 gi0 gi2
  go_wp2
  go_step3
  go_wp2
  go_loopw [2, 5, 7, 9, 13, 14, 15, 16, 17] (fun man cut i us dot dig nd nm dp w' => RdLoop wc 0 body man cut i us dot dig nd nm dp w') (fun _ _ i _ _ _ _ _ _ _ => body.length + 2 - (intOf i).toNat)
  case atStart => exact ⟨0, Nat.zero_le _, rfl, rfl, rfl, rfl, rfl, rfl, rfl, rfl, rfl, rfl⟩
  case round =>
    obtain ⟨k, hk, rfl, rfl, rfl, rfl, rfl, rfl, rfl, rfl, rfl, rfl⟩ := hrel
    obtain ⟨v1, v2, v3, v4, v5, v6⟩ := rdB_inv hb k hk
    have vd := rdB_dot body k hk
    by_cases hkl : k < body.length
    · obtain ⟨c, hc⟩ : ∃ c, body[k]? = some c := ⟨body[k]'hkl, List.getElem?_eq_getElem hkl⟩
      have hcb := hb c (List.mem_of_getElem? hc)
      obtain ⟨kk, ek, hc256⟩ := bys_get (hget k c hc)
      have hnx : rdB (body.take (k + 1)) = rdStep (rdB (body.take k)) c := by rw [take_snc hc, rdB_snoc]
      have g1 : ((0 + k : Nat) : Int) < (s.size : Int) := by omega
      simp only [Nat.zero_add] at kk ek g1
      have hks : k < s.size := kk
      have n95 : ((c : Int) == 95) = false := by rcases hcb with h | h <;> (unfold digB at *; simp at *; omega)
      have hdd : c = 46 → (rdB (body.take k)).dot = false := fun h => by
        rw [vd, decide_eq_false_iff_not]
        intro hm
        have h1 : 1 ≤ (body.take k).count 46 := List.count_pos_iff.2 hm
        have h2 : body = body.take k ++ body.drop k := (List.take_append_drop k body).symm
        have h3 : 1 ≤ (body.drop k).count 46 := by
          apply List.count_pos_iff.2
          rw [← h]
          exact List.mem_of_getElem? (i := 0) (by rw [List.getElem?_drop]; simpa using hc)
        rw [h2, List.count_append] at hdot
        omega
      obtain ⟨st, hst⟩ : ∃ st, st = rdB (body.take k) := ⟨_, rfl⟩
      rw [← hst] at v1 v2 v3 v4 v5 v6 hnx hdd ⊢
      obtain ⟨man, nd, nm, dp, dot, dig, cut⟩ := st
      simp only at v1 v2 v3 v4 v5 v6 hdd ⊢
      have hpow : (10 : Nat) ^ nm ≤ 10 ^ 19 := Nat.pow_le_pow_right (by decide) v2
      have e19 : (10 : Nat) ^ 19 = 10000000000000000000 := by decide
      have hml : man < 10000000000000000000 := by omega
      clear hst vd hc hget hgE hgS hgD hb hd hdot hdg
      by_cases c46 : c = 46
      · have n46 : ((c : Int) == 46) = true := by simp [c46]
        have hd0' := hdd c46
        subst hd0'
        have hN := hid (show rdB (body.take (k + 1)) = ⟨man, nd, nm, (nd : Int), true, dig, cut⟩ by rw [hnx]; unfold rdStep; rw [if_pos c46])
        clear c46 hnx hdd hcb
        go_wp2
        go_roundw
        case rel => exact ⟨k + 1, hkl, rfl, by go_num, (by first | (rw [hN.out]; done) | (rw [hN.out]; congr 1 <;> first | omega | (simp only; omega))), (by first | (rw [hN.out]; done) | (rw [hN.out]; congr 1 <;> first | omega | (simp only; omega))), (by first | (rw [hN.out]; done) | (rw [hN.out]; congr 1 <;> first | omega | (simp only; omega))), (by first | (rw [hN.out]; done) | (rw [hN.out]; congr 1 <;> first | omega | (simp only; omega))), (by first | (rw [hN.out]; done) | (rw [hN.out]; congr 1 <;> first | omega | (simp only; omega))), (by first | (rw [hN.out]; done) | (rw [hN.out]; congr 1 <;> first | omega | (simp only; omega))), (by first | (rw [hN.out]; done) | (rw [hN.out]; congr 1 <;> first | omega | (simp only; omega))), rfl⟩
        case measure => simp [intOf] <;> omega
      · have n46 : ((c : Int) == 46) = false := by simp; omega
        have hdb : digB c = true := hcb.resolve_right c46
        unfold digB at hdb
        simp at hdb
        obtain ⟨d1, d2⟩ := hdb
        have f1 : (48 : Int) ≤ (c : Int) := by omega
        have f2 : (c : Int) ≤ 57 := by omega
        by_cases hz : c = 48 ∧ nd = 0
        · obtain ⟨hz1, hz2⟩ := hz
          have n48 : ((c : Int) == 48) = true := by simp [hz1]
          have hN := hid (show rdB (body.take (k + 1)) = ⟨man, nd, nm, dp - 1, dot, true, cut⟩ by rw [hnx]; unfold rdStep; rw [if_neg c46, if_pos ⟨hz1, hz2⟩])
          have nd0 : ((nd : Int) == 0) = true := by simp [hz2]
          clear c46 hnx hdd hcb hz1 hz2
          go_wp2
          go_roundw
          case rel => exact ⟨k + 1, hkl, rfl, by go_num, (by first | (rw [hN.out]; done) | (rw [hN.out]; congr 1 <;> first | omega | (simp only; omega))), (by first | (rw [hN.out]; done) | (rw [hN.out]; congr 1 <;> first | omega | (simp only; omega))), (by first | (rw [hN.out]; done) | (rw [hN.out]; congr 1 <;> first | omega | (simp only; omega))), (by first | (rw [hN.out]; done) | (rw [hN.out]; congr 1 <;> first | omega | (simp only; omega))), (by first | (rw [hN.out]; done) | (rw [hN.out]; congr 1 <;> first | omega | (simp only; omega))), (by first | (rw [hN.out]; done) | (rw [hN.out]; congr 1 <;> first | omega | (simp only; omega))), (by first | (rw [hN.out]; done) | (rw [hN.out]; congr 1 <;> first | omega | (simp only; omega))), rfl⟩
          case measure => simp [intOf] <;> omega
        · have n48 : (((c : Int) == 48) = false) ∨ (((c : Int) == 48) = true ∧ ((nd : Int) == 0) = false) := by
            by_cases h : c = 48
            · right
              exact ⟨by simp [h], by simp; omega⟩
            · left
              simp
              omega
          by_cases h19 : nm < 19
          · have g19 : (nm : Int) < 19 := by omega
            have hpow2 : (10 : Nat) ^ nm ≤ 10 ^ 18 := Nat.pow_le_pow_right (by decide) (by omega)
            have e18 : (10 : Nat) ^ 18 = 1000000000000000000 := by decide
            have hml2 : man < 1000000000000000000 := by omega
            have w1 : IntKind.u64.wrap ((man : Int) * 10) = (man : Int) * 10 := by rw [IntKind.wrap_u64]; omega
            have w2 : IntKind.u64.wrap ((man : Int) * 10 + ((c : Int) - 48)) = (man : Int) * 10 + ((c : Int) - 48) := by rw [IntKind.wrap_u64]; omega
            have hN := hid (show rdB (body.take (k + 1)) = ⟨man * 10 + (c - 48), nd + 1, nm + 1, dp, dot, true, cut⟩ by rw [hnx]; unfold rdStep; rw [if_neg c46, if_neg hz, if_pos h19])
            clear c46 hnx hdd hcb hz
            rcases n48 with n48 | ⟨n48, nd0⟩
            all_goals
              go_wp2
              go_roundw
              case rel => exact ⟨k + 1, hkl, rfl, by go_num, (by first | (rw [hN.out]; done) | (rw [hN.out]; congr 1 <;> first | omega | (simp only; omega))), (by first | (rw [hN.out]; done) | (rw [hN.out]; congr 1 <;> first | omega | (simp only; omega))), (by first | (rw [hN.out]; done) | (rw [hN.out]; congr 1 <;> first | omega | (simp only; omega))), (by first | (rw [hN.out]; done) | (rw [hN.out]; congr 1 <;> first | omega | (simp only; omega))), (by first | (rw [hN.out]; done) | (rw [hN.out]; congr 1 <;> first | omega | (simp only; omega))), (by first | (rw [hN.out]; done) | (rw [hN.out]; congr 1 <;> first | omega | (simp only; omega))), (by first | (rw [hN.out]; done) | (rw [hN.out]; congr 1 <;> first | omega | (simp only; omega))), rfl⟩
              case measure => simp [intOf] <;> omega
          · have g19 : ¬ (nm : Int) < 19 := by omega
            have hN := hid (show rdB (body.take (k + 1)) = ⟨man, nd + 1, nm, dp, dot, true, cut || c != 48⟩ by rw [hnx]; unfold rdStep; rw [if_neg c46, if_neg hz, if_neg h19])
            clear c46 hnx hdd hcb hz
            rcases n48 with n48 | ⟨n48, nd0⟩
            · have m48 : ((c : Int) != 48) = true := by simpa using n48
              have hcc : (cut || c != 48) = true := by
                have : (c != 48) = true := by simp at n48 ⊢; omega
                rw [this, Bool.or_true]
              rw [hcc] at hN
              go_wp2
              go_roundw
              case rel => exact ⟨k + 1, hkl, rfl, by go_num, (by first | (rw [hN.out]; done) | (rw [hN.out]; congr 1 <;> first | omega | (simp only; omega))), (by first | (rw [hN.out]; done) | (rw [hN.out]; congr 1 <;> first | omega | (simp only; omega))), (by first | (rw [hN.out]; done) | (rw [hN.out]; congr 1 <;> first | omega | (simp only; omega))), (by first | (rw [hN.out]; done) | (rw [hN.out]; congr 1 <;> first | omega | (simp only; omega))), (by first | (rw [hN.out]; done) | (rw [hN.out]; congr 1 <;> first | omega | (simp only; omega))), (by first | (rw [hN.out]; done) | (rw [hN.out]; congr 1 <;> first | omega | (simp only; omega))), (by first | (rw [hN.out]; done) | (rw [hN.out]; congr 1 <;> first | omega | (simp only; omega))), rfl⟩
              case measure => simp [intOf] <;> omega
            · have m48 : ((c : Int) != 48) = false := by simpa using n48
              have hcc : (cut || c != 48) = cut := by
                have : (c != 48) = false := by simp at n48 ⊢; omega
                rw [this, Bool.or_false]
              rw [hcc] at hN
              go_wp2
              go_roundw
              case rel => exact ⟨k + 1, hkl, rfl, by go_num, (by first | (rw [hN.out]; done) | (rw [hN.out]; congr 1 <;> first | omega | (simp only; omega))), (by first | (rw [hN.out]; done) | (rw [hN.out]; congr 1 <;> first | omega | (simp only; omega))), (by first | (rw [hN.out]; done) | (rw [hN.out]; congr 1 <;> first | omega | (simp only; omega))), (by first | (rw [hN.out]; done) | (rw [hN.out]; congr 1 <;> first | omega | (simp only; omega))), (by first | (rw [hN.out]; done) | (rw [hN.out]; congr 1 <;> first | omega | (simp only; omega))), (by first | (rw [hN.out]; done) | (rw [hN.out]; congr 1 <;> first | omega | (simp only; omega))), (by first | (rw [hN.out]; done) | (rw [hN.out]; congr 1 <;> first | omega | (simp only; omega))), rfl⟩
              case measure => simp [intOf] <;> omega
    · obtain rfl : k = body.length := by omega
      rw [List.take_length] at v1 v2 v3 v4 v5 v6 vd
      simp only [List.take_length]
      obtain ⟨⟨man, nd, nm, dp, dot, dig, cut⟩, hst⟩ : ∃ st, st = rdB body := ⟨_, rfl⟩
      rw [← hst] at v1 v2 v3 v4 v5 v6 hdg ⊢
      simp only at v1 v2 v3 v4 v5 v6 hdg ⊢
      subst hdg
      have hSt := hid hst
      clear hst vd hkl hk hget hb hdot
      have HL2 := hid fun w => lower_v 101 101 rfl (.inr (.inr rfl)) w
      obtain ⟨d0, hd1⟩ : ∃ d, ds[0]? = some d := ⟨ds[0]'(by omega), List.getElem?_eq_getElem (by omega)⟩
      have hdd := hd d0 (List.mem_of_getElem? hd1)
      have hD0 := hgD 0 d0 hd1
      unfold digB at hdd
      simp at hdd
      obtain ⟨f1, f2⟩ := hdd
      have f3 : (48 : Int) ≤ (d0 : Int) := by omega
      have f4 : (d0 : Int) ≤ 57 := by omega
      have HX := hid fun k (hk : k ≤ ds.length) => exV_b hd k hk
      obtain ⟨bl, hbl2⟩ : ∃ bl, bl = body.length := ⟨_, rfl⟩
      rw [← hbl2] at v4 v5 v6 hlenS hgE hgS hD0 hbl
      obtain ⟨ke, ee, -⟩ := bys_get hgE
      simp only [Nat.zero_add] at ke ee
      have hgD2 := hid hgD
      rw [← hbl2] at hgD2
      rw [← hbl2]
      clear hbl2 hgE hgD
      have hsz := hlenS.out
      rcases hsg with rfl | rfl
      · simp only [List.length_nil, Nat.add_zero, Nat.zero_add] at hD0 hsz hlenS hgD2
        obtain ⟨kd, ed, -⟩ := bys_get hD0
        have g6 : ((bl : Int) + 1) < (s.size : Int) := by omega
        have g7 : (bl : Int) < (s.size : Int) := by omega
        have n43 : ((d0 : Int) == 43) = false := by simp; omega
        have n45 : ((d0 : Int) == 45) = false := by simp; omega
        clear hsz
        cases dot
        all_goals
          go_upto_region 68 with (go_at_call 167; first | ((with_reducible refine (HL2.out _).mono ?_); rintro E1 w1 ⟨rfl, rfl⟩))
          clear kd ed hD0 f1 f2 f3 f4 n43 n45 ke ee
          go_wp2
          go_loopw [7, 9, 20] (fun i us e w' => ExLoop w1 (bl + 1) ds i us e w') (fun i _ _ _ => ds.length + bl + 3 - (intOf i).toNat)
          case atStart => exact ⟨0, Nat.zero_le _, rfl, rfl, rfl, rfl⟩
          case round =>
            obtain ⟨k, hk, rfl, rfl, rfl, rfl⟩ := hrel
            by_cases hkl : k < ds.length
            · obtain ⟨c, hc⟩ : ∃ c, ds[k]? = some c := ⟨ds[k]'hkl, List.getElem?_eq_getElem hkl⟩
              have hcb := hd c (List.mem_of_getElem? hc)
              unfold digB at hcb
              simp at hcb
              obtain ⟨d1, d2⟩ := hcb
              obtain ⟨kk, ek, -⟩ := bys_get (hgD2.out k c hc)
              obtain ⟨x1, x2⟩ := HX.out k hk
              have hX := hid (show exV (ds.take (k + 1)) = exStep (exV (ds.take k)) c by rw [take_snc hc, exV_snoc])
              generalize exV (ds.take k) = x at x1 x2 hX ⊢
              have f1 : (48 : Int) ≤ (c : Int) := by omega
              have f2 : (c : Int) ≤ 57 := by omega
              have n95 : ((c : Int) == 95) = false := by simp; omega
              have g8 : ((bl : Int) + 1 + (k : Int)) < (s.size : Int) := by omega
              clear hc d1 d2 hs hgS hd1 g6 g7 hk
              by_cases hx : x < 10000
              · go_wp2
                go_roundw
                case rel => exact ⟨k + 1, hkl, rfl, by go_num, by rw [hX.out]; unfold exStep; rw [if_pos hx], rfl⟩
                case measure => simp [intOf] <;> omega
              · go_wp2
                go_roundw
                case rel => exact ⟨k + 1, hkl, rfl, by go_num, by rw [hX.out]; unfold exStep; rw [if_neg (by omega)], rfl⟩
                case measure => simp [intOf] <;> omega
            · obtain rfl : k = ds.length := by omega
              obtain ⟨x1, x2⟩ := HX.out _ (Nat.le_refl _)
              rw [List.take_length] at x1 x2 ⊢
              obtain ⟨x, hxe⟩ : ∃ x, x = exV ds := ⟨_, rfl⟩
              rw [← hxe] at x1 x2 ⊢
              have hXe := hid hxe
              clear hxe
              have hsz := hlenS.out
              clear hs hgS hd1 g6 g7 hk
              by_cases hm0 : man = 0
              · have gm : ((man : Int) != 0) = false := by simp [hm0]
                go_wp2
                rw [Exit.noGoto_ret]
                refine bodyPost_ret (results_tmp7 rfl _ _ _) rfl ?_
                exact ⟨by rw [← hSt.out, ← hXe.out]; simp only [hm0, hsz]; rfl, rfl⟩
              · have gm : ((man : Int) != 0) = true := by simp; omega
                go_wp2
                rw [Exit.noGoto_ret]
                refine bodyPost_ret (results_tmp7 rfl _ _ _) rfl ?_
                exact ⟨by rw [← hSt.out, ← hXe.out]; simp only [if_neg hm0, hsz]; rfl, rfl⟩
      · simp only [List.length_singleton, Nat.add_zero, Nat.zero_add] at hD0 hsz hlenS hgD2
        obtain ⟨ks, es, -⟩ := bys_get (hgS rfl)
        simp only [Nat.zero_add] at ks es
        have n43 : ((45 : Int) == 43) = false := by decide
        have n45 : ((45 : Int) == 45) = true := by decide
        have g9 : ((bl : Int) + 1 + 1) < (s.size : Int) := by omega
        obtain ⟨kd, ed, -⟩ := bys_get hD0
        have g6 : ((bl : Int) + 1) < (s.size : Int) := by omega
        have g7 : (bl : Int) < (s.size : Int) := by omega
        clear hsz
        cases dot
        all_goals
          go_upto_region 68 with (go_at_call 167; first | ((with_reducible refine (HL2.out _).mono ?_); rintro E1 w1 ⟨rfl, rfl⟩))
          clear kd ed hD0 ks es f1 f2 f3 f4 n43 n45 ke ee
          go_wp2
          go_loopw [7, 9, 20] (fun i us e w' => ExLoop w1 (bl + 1 + 1) ds i us e w') (fun i _ _ _ => ds.length + bl + 4 - (intOf i).toNat)
          case atStart => exact ⟨0, Nat.zero_le _, rfl, rfl, rfl, rfl⟩
          case round =>
            obtain ⟨k, hk, rfl, rfl, rfl, rfl⟩ := hrel
            by_cases hkl : k < ds.length
            · obtain ⟨c, hc⟩ : ∃ c, ds[k]? = some c := ⟨ds[k]'hkl, List.getElem?_eq_getElem hkl⟩
              have hcb := hd c (List.mem_of_getElem? hc)
              unfold digB at hcb
              simp at hcb
              obtain ⟨d1, d2⟩ := hcb
              obtain ⟨kk, ek, -⟩ := bys_get (hgD2.out k c hc)
              obtain ⟨x1, x2⟩ := HX.out k hk
              have hX := hid (show exV (ds.take (k + 1)) = exStep (exV (ds.take k)) c by rw [take_snc hc, exV_snoc])
              generalize exV (ds.take k) = x at x1 x2 hX ⊢
              have f1 : (48 : Int) ≤ (c : Int) := by omega
              have f2 : (c : Int) ≤ 57 := by omega
              have n95 : ((c : Int) == 95) = false := by simp; omega
              have g8 : ((bl : Int) + 1 + 1 + (k : Int)) < (s.size : Int) := by omega
              clear hc d1 d2 hs hgS hd1 g6 g7 g9 hk
              by_cases hx : x < 10000
              · go_wp2
                go_roundw
                case rel => exact ⟨k + 1, hkl, rfl, by go_num, by rw [hX.out]; unfold exStep; rw [if_pos hx], rfl⟩
                case measure => simp [intOf] <;> omega
              · go_wp2
                go_roundw
                case rel => exact ⟨k + 1, hkl, rfl, by go_num, by rw [hX.out]; unfold exStep; rw [if_neg (by omega)], rfl⟩
                case measure => simp [intOf] <;> omega
            · obtain rfl : k = ds.length := by omega
              obtain ⟨x1, x2⟩ := HX.out _ (Nat.le_refl _)
              rw [List.take_length] at x1 x2 ⊢
              obtain ⟨x, hxe⟩ : ∃ x, x = exV ds := ⟨_, rfl⟩
              rw [← hxe] at x1 x2 ⊢
              have hXe := hid hxe
              clear hxe
              have hsz := hlenS.out
              clear hs hgS hd1 g6 g7 g9 hk
              by_cases hm0 : man = 0
              · have gm : ((man : Int) != 0) = false := by simp [hm0]
                go_wp2
                rw [Exit.noGoto_ret]
                refine bodyPost_ret (results_tmp7 rfl _ _ _) rfl ?_
                exact ⟨by rw [← hSt.out, ← hXe.out]; simp only [hm0, hsz]; rfl, rfl⟩
              · have gm : ((man : Int) != 0) = true := by simp; omega
                go_wp2
                rw [Exit.noGoto_ret]
                refine bodyPost_ret (results_tmp7 rfl _ _ _) rfl ?_
                exact ⟨by rw [← hSt.out, ← hXe.out]; simp only [if_neg hm0, hsz]; rfl, rfl⟩
set_option maxRecDepth 100000 in
set_option maxHeartbeats 4000000 in
theorem readFloat_n (s : ByteArray) (neg : Bool) (body sg ds : List Nat) (hs : bys s = (if neg then [45] else []) ++ body ++ [101] ++ sg ++ ds) (hb : ∀ c ∈ body, digB c = true ∨ c = 46) (hb1 : body ≠ []) (hd : ∀ c ∈ ds, digB c = true) (hd0 : ds ≠ []) (hsg : sg = [] ∨ sg = [45]) (hlen : s.size ≤ 200) (hdg : (rdB body).dig = true) (hdot : body.count 46 ≤ 1) (hng : neg = true) (w : World) :
    Calls Tryz.prog 143 #[.string s] w fun e w' => e = .returned (.tuple #[.int .u64 (rdB body).man, .int .i64 (if (rdB body).man = 0 then 0 else (if (rdB body).dot then (rdB body).dp else (rdB body).nd) + (if sg = [] then exV ds else -exV ds) - (rdB body).nm), .bool neg, .bool (rdB body).cut, .bool false, .int .i64 s.size, .bool true]) ∧ w' = w := by
  obtain ⟨i0, hi0⟩ : ∃ i0 : Nat, i0 = if neg then 1 else 0 := ⟨_, rfl⟩
  have hget : ∀ k c, body[k]? = some c → (bys s)[i0 + k]? = some c := fun k c h => by
    have hk := (List.getElem?_eq_some_iff.1 h).1
    rw [hs, hi0]
    cases neg
    · simp only [Bool.false_eq_true, if_false, List.nil_append, Nat.zero_add, List.append_assoc]
      rw [List.getElem?_append_left hk]
      exact h
    · simp only [if_true, List.append_assoc]
      rw [List.getElem?_append_right (by simp), List.getElem?_append_left (by simpa using hk)]
      simpa using h
  have hgE : (bys s)[i0 + body.length]? = some 101 := by
    rw [hs, hi0]
    cases neg
    · simp
    · simp [Nat.add_comm 1]
  have hgS : sg = [45] → (bys s)[i0 + body.length + 1]? = some 45 := fun h => by
    rw [hs, hi0, h]
    cases neg
    · simp
    · simp [Nat.add_comm 1]
  have hgD : ∀ k c, ds[k]? = some c → (bys s)[i0 + body.length + 1 + sg.length + k]? = some c := fun k c h => by
    rw [hs, hi0]
    rw [List.getElem?_append_right (by cases neg <;> simp <;> omega)]
    rw [← h]
    congr 1
    cases neg <;> simp <;> omega
  have hlenS : s.size = i0 + body.length + 1 + sg.length + ds.length := by
    rw [← bys_len, hs, hi0]
    cases neg <;> simp <;> omega
  have hbl : 1 ≤ body.length := List.length_pos_iff.2 hb1
  have hdl : 1 ≤ ds.length := List.length_pos_iff.2 hd0
  obtain ⟨c0, hc0⟩ : ∃ c, body[0]? = some c := ⟨body[0]'(by omega), List.getElem?_eq_getElem (by omega)⟩
  have hc0b := hb c0 (List.mem_of_getElem? hc0)
  have h0 := hget 0 c0 hc0
  obtain ⟨c1, h1, hc1⟩ : ∃ c1, (bys s)[i0 + 1]? = some c1 ∧ (digB c1 = true ∨ c1 = 46 ∨ c1 = 101) := by
    by_cases h2 : 2 ≤ body.length
    · obtain ⟨c, hc⟩ : ∃ c, body[1]? = some c := ⟨body[1]'(by omega), List.getElem?_eq_getElem (by omega)⟩
      refine ⟨c, hget 1 c hc, ?_⟩
      rcases hb c (List.mem_of_getElem? hc) with h | h
      · exact .inl h
      · exact .inr (.inl h)
    · rw [show body.length = 1 by omega] at hgE
      exact ⟨101, hgE, .inr (.inr rfl)⟩
  have g2 : ((c0 : Int) == 43) = false := by rcases hc0b with h | h <;> (unfold digB at *; simp at *; omega)
  have g3 : ((c0 : Int) == 45) = false := by rcases hc0b with h | h <;> (unfold digB at *; simp at *; omega)
  have g4 : ((c1 : Int) == 120) = false := by rcases hc1 with h | h | h <;> (unfold digB at *; simp at *; omega)
  have HLw := hid fun w => lower_v (c1 : Int) c1 rfl hc1 w
  obtain ⟨k0, e0, -⟩ := bys_get h0
  obtain ⟨k1, e1, -⟩ := bys_get h1
  have gi0 : (i0 : Int) < (s.size : Int) := by omega
  have gi2 : (i0 : Int) + 2 < (s.size : Int) := by omega
  have hi01 : i0 ≤ 1 := by rw [hi0]; split <;> omega
  have hemp : (s = ByteArray.empty) = False := by
    simp only [eq_iff_iff, iff_false]
    intro h
    rw [h] at hlenS
    simp at hlenS
    omega
  replace hlenS := hid hlenS
  replace hs := hid hs
  subst hng
  simp only [if_true] at hi0
  subst hi0
  simp only [Nat.add_zero] at e0 k0
  have hm0 : (bys s)[0]? = some 45 := by rw [hs.out]; simp
  obtain ⟨km, em, -⟩ := bys_get hm0
  have q3 : ((45 : Int) == 43) = false := by decide
  have q4 : ((45 : Int) == 45) = true := by decide
  have gi1 : (1 : Int) < (s.size : Int) := by omega
  have gi3 : (1 : Int) + 2 < (s.size : Int) := by omega
  have gi4 : (1 : Int) + 1 < (s.size : Int) := by omega
  go_enter Tryz.func143, Tryz.ntmps143
  go_wp2
  go_step3
  go_upto_region 12 with (fail)
  go_cut [54] from 36 to 53 (fun x wx => x = .bool false ∧ wx = w)
  case first =>
    by_cases hz : c0 = 48
    · have g5 : ((c0 : Int) == 48) = true := by simp [hz]
      clear hz
      go_wp2_with (go_at_call 167; (with_reducible refine (HLw.out _).mono ?_); rintro E1 w1 ⟨rfl, rfl⟩)
      go_meet
      exact ⟨rfl, rfl⟩
    · have g5 : ((c0 : Int) == 48) = false := by simp; omega
      clear hz
      go_wp2
      go_meet
      exact ⟨rfl, rfl⟩
  obtain ⟨rfl, rfl⟩ := hcut
  clear hm0 km em q3 q4 gi1 gi3 gi4 h0 h1 hc0b hc0 hc1 e0 e1 g2 g3 g4 HLw k0 k1 gi0 gi2
  go_wp2
  go_step3
  go_wp2
  go_loopw [2, 5, 7, 9, 13, 14, 15, 16, 17] (fun man cut i us dot dig nd nm dp w' => RdLoop wc 1 body man cut i us dot dig nd nm dp w') (fun _ _ i _ _ _ _ _ _ _ => body.length + 3 - (intOf i).toNat)
  case atStart => exact ⟨0, Nat.zero_le _, rfl, rfl, rfl, rfl, rfl, rfl, rfl, rfl, rfl, rfl⟩
  case round =>
    obtain ⟨k, hk, rfl, rfl, rfl, rfl, rfl, rfl, rfl, rfl, rfl, rfl⟩ := hrel
    obtain ⟨v1, v2, v3, v4, v5, v6⟩ := rdB_inv hb k hk
    have vd := rdB_dot body k hk
    by_cases hkl : k < body.length
    · obtain ⟨c, hc⟩ : ∃ c, body[k]? = some c := ⟨body[k]'hkl, List.getElem?_eq_getElem hkl⟩
      have hcb := hb c (List.mem_of_getElem? hc)
      obtain ⟨kk, ek, hc256⟩ := bys_get (hget k c hc)
      have hnx : rdB (body.take (k + 1)) = rdStep (rdB (body.take k)) c := by rw [take_snc hc, rdB_snoc]
      have g1 : (1 : Int) + (k : Int) < (s.size : Int) := by omega
      skip
      have hks : 1 + k < s.size := kk
      have n95 : ((c : Int) == 95) = false := by rcases hcb with h | h <;> (unfold digB at *; simp at *; omega)
      have hdd : c = 46 → (rdB (body.take k)).dot = false := fun h => by
        rw [vd, decide_eq_false_iff_not]
        intro hm
        have h1 : 1 ≤ (body.take k).count 46 := List.count_pos_iff.2 hm
        have h2 : body = body.take k ++ body.drop k := (List.take_append_drop k body).symm
        have h3 : 1 ≤ (body.drop k).count 46 := by
          apply List.count_pos_iff.2
          rw [← h]
          exact List.mem_of_getElem? (i := 0) (by rw [List.getElem?_drop]; simpa using hc)
        rw [h2, List.count_append] at hdot
        omega
      obtain ⟨st, hst⟩ : ∃ st, st = rdB (body.take k) := ⟨_, rfl⟩
      rw [← hst] at v1 v2 v3 v4 v5 v6 hnx hdd ⊢
      obtain ⟨man, nd, nm, dp, dot, dig, cut⟩ := st
      simp only at v1 v2 v3 v4 v5 v6 hdd ⊢
      have hpow : (10 : Nat) ^ nm ≤ 10 ^ 19 := Nat.pow_le_pow_right (by decide) v2
      have e19 : (10 : Nat) ^ 19 = 10000000000000000000 := by decide
      have hml : man < 10000000000000000000 := by omega
      clear hst vd hc hget hgE hgS hgD hb hd hdot hdg
      by_cases c46 : c = 46
      · have n46 : ((c : Int) == 46) = true := by simp [c46]
        have hd0' := hdd c46
        subst hd0'
        have hN := hid (show rdB (body.take (k + 1)) = ⟨man, nd, nm, (nd : Int), true, dig, cut⟩ by rw [hnx]; unfold rdStep; rw [if_pos c46])
        clear c46 hnx hdd hcb
        go_wp2
        go_roundw
        case rel => exact ⟨k + 1, hkl, rfl, by go_num, (by first | (rw [hN.out]; done) | (rw [hN.out]; congr 1 <;> first | omega | (simp only; omega))), (by first | (rw [hN.out]; done) | (rw [hN.out]; congr 1 <;> first | omega | (simp only; omega))), (by first | (rw [hN.out]; done) | (rw [hN.out]; congr 1 <;> first | omega | (simp only; omega))), (by first | (rw [hN.out]; done) | (rw [hN.out]; congr 1 <;> first | omega | (simp only; omega))), (by first | (rw [hN.out]; done) | (rw [hN.out]; congr 1 <;> first | omega | (simp only; omega))), (by first | (rw [hN.out]; done) | (rw [hN.out]; congr 1 <;> first | omega | (simp only; omega))), (by first | (rw [hN.out]; done) | (rw [hN.out]; congr 1 <;> first | omega | (simp only; omega))), rfl⟩
        case measure => simp [intOf] <;> omega
      · have n46 : ((c : Int) == 46) = false := by simp; omega
        have hdb : digB c = true := hcb.resolve_right c46
        unfold digB at hdb
        simp at hdb
        obtain ⟨d1, d2⟩ := hdb
        have f1 : (48 : Int) ≤ (c : Int) := by omega
        have f2 : (c : Int) ≤ 57 := by omega
        by_cases hz : c = 48 ∧ nd = 0
        · obtain ⟨hz1, hz2⟩ := hz
          have n48 : ((c : Int) == 48) = true := by simp [hz1]
          have hN := hid (show rdB (body.take (k + 1)) = ⟨man, nd, nm, dp - 1, dot, true, cut⟩ by rw [hnx]; unfold rdStep; rw [if_neg c46, if_pos ⟨hz1, hz2⟩])
          have nd0 : ((nd : Int) == 0) = true := by simp [hz2]
          clear c46 hnx hdd hcb hz1 hz2
          go_wp2
          go_roundw
          case rel => exact ⟨k + 1, hkl, rfl, by go_num, (by first | (rw [hN.out]; done) | (rw [hN.out]; congr 1 <;> first | omega | (simp only; omega))), (by first | (rw [hN.out]; done) | (rw [hN.out]; congr 1 <;> first | omega | (simp only; omega))), (by first | (rw [hN.out]; done) | (rw [hN.out]; congr 1 <;> first | omega | (simp only; omega))), (by first | (rw [hN.out]; done) | (rw [hN.out]; congr 1 <;> first | omega | (simp only; omega))), (by first | (rw [hN.out]; done) | (rw [hN.out]; congr 1 <;> first | omega | (simp only; omega))), (by first | (rw [hN.out]; done) | (rw [hN.out]; congr 1 <;> first | omega | (simp only; omega))), (by first | (rw [hN.out]; done) | (rw [hN.out]; congr 1 <;> first | omega | (simp only; omega))), rfl⟩
          case measure => simp [intOf] <;> omega
        · have n48 : (((c : Int) == 48) = false) ∨ (((c : Int) == 48) = true ∧ ((nd : Int) == 0) = false) := by
            by_cases h : c = 48
            · right
              exact ⟨by simp [h], by simp; omega⟩
            · left
              simp
              omega
          by_cases h19 : nm < 19
          · have g19 : (nm : Int) < 19 := by omega
            have hpow2 : (10 : Nat) ^ nm ≤ 10 ^ 18 := Nat.pow_le_pow_right (by decide) (by omega)
            have e18 : (10 : Nat) ^ 18 = 1000000000000000000 := by decide
            have hml2 : man < 1000000000000000000 := by omega
            have w1 : IntKind.u64.wrap ((man : Int) * 10) = (man : Int) * 10 := by rw [IntKind.wrap_u64]; omega
            have w2 : IntKind.u64.wrap ((man : Int) * 10 + ((c : Int) - 48)) = (man : Int) * 10 + ((c : Int) - 48) := by rw [IntKind.wrap_u64]; omega
            have hN := hid (show rdB (body.take (k + 1)) = ⟨man * 10 + (c - 48), nd + 1, nm + 1, dp, dot, true, cut⟩ by rw [hnx]; unfold rdStep; rw [if_neg c46, if_neg hz, if_pos h19])
            clear c46 hnx hdd hcb hz
            rcases n48 with n48 | ⟨n48, nd0⟩
            all_goals
              go_wp2
              go_roundw
              case rel => exact ⟨k + 1, hkl, rfl, by go_num, (by first | (rw [hN.out]; done) | (rw [hN.out]; congr 1 <;> first | omega | (simp only; omega))), (by first | (rw [hN.out]; done) | (rw [hN.out]; congr 1 <;> first | omega | (simp only; omega))), (by first | (rw [hN.out]; done) | (rw [hN.out]; congr 1 <;> first | omega | (simp only; omega))), (by first | (rw [hN.out]; done) | (rw [hN.out]; congr 1 <;> first | omega | (simp only; omega))), (by first | (rw [hN.out]; done) | (rw [hN.out]; congr 1 <;> first | omega | (simp only; omega))), (by first | (rw [hN.out]; done) | (rw [hN.out]; congr 1 <;> first | omega | (simp only; omega))), (by first | (rw [hN.out]; done) | (rw [hN.out]; congr 1 <;> first | omega | (simp only; omega))), rfl⟩
              case measure => simp [intOf] <;> omega
          · have g19 : ¬ (nm : Int) < 19 := by omega
            have hN := hid (show rdB (body.take (k + 1)) = ⟨man, nd + 1, nm, dp, dot, true, cut || c != 48⟩ by rw [hnx]; unfold rdStep; rw [if_neg c46, if_neg hz, if_neg h19])
            clear c46 hnx hdd hcb hz
            rcases n48 with n48 | ⟨n48, nd0⟩
            · have m48 : ((c : Int) != 48) = true := by simpa using n48
              have hcc : (cut || c != 48) = true := by
                have : (c != 48) = true := by simp at n48 ⊢; omega
                rw [this, Bool.or_true]
              rw [hcc] at hN
              go_wp2
              go_roundw
              case rel => exact ⟨k + 1, hkl, rfl, by go_num, (by first | (rw [hN.out]; done) | (rw [hN.out]; congr 1 <;> first | omega | (simp only; omega))), (by first | (rw [hN.out]; done) | (rw [hN.out]; congr 1 <;> first | omega | (simp only; omega))), (by first | (rw [hN.out]; done) | (rw [hN.out]; congr 1 <;> first | omega | (simp only; omega))), (by first | (rw [hN.out]; done) | (rw [hN.out]; congr 1 <;> first | omega | (simp only; omega))), (by first | (rw [hN.out]; done) | (rw [hN.out]; congr 1 <;> first | omega | (simp only; omega))), (by first | (rw [hN.out]; done) | (rw [hN.out]; congr 1 <;> first | omega | (simp only; omega))), (by first | (rw [hN.out]; done) | (rw [hN.out]; congr 1 <;> first | omega | (simp only; omega))), rfl⟩
              case measure => simp [intOf] <;> omega
            · have m48 : ((c : Int) != 48) = false := by simpa using n48
              have hcc : (cut || c != 48) = cut := by
                have : (c != 48) = false := by simp at n48 ⊢; omega
                rw [this, Bool.or_false]
              rw [hcc] at hN
              go_wp2
              go_roundw
              case rel => exact ⟨k + 1, hkl, rfl, by go_num, (by first | (rw [hN.out]; done) | (rw [hN.out]; congr 1 <;> first | omega | (simp only; omega))), (by first | (rw [hN.out]; done) | (rw [hN.out]; congr 1 <;> first | omega | (simp only; omega))), (by first | (rw [hN.out]; done) | (rw [hN.out]; congr 1 <;> first | omega | (simp only; omega))), (by first | (rw [hN.out]; done) | (rw [hN.out]; congr 1 <;> first | omega | (simp only; omega))), (by first | (rw [hN.out]; done) | (rw [hN.out]; congr 1 <;> first | omega | (simp only; omega))), (by first | (rw [hN.out]; done) | (rw [hN.out]; congr 1 <;> first | omega | (simp only; omega))), (by first | (rw [hN.out]; done) | (rw [hN.out]; congr 1 <;> first | omega | (simp only; omega))), rfl⟩
              case measure => simp [intOf] <;> omega
    · obtain rfl : k = body.length := by omega
      rw [List.take_length] at v1 v2 v3 v4 v5 v6 vd
      simp only [List.take_length]
      obtain ⟨⟨man, nd, nm, dp, dot, dig, cut⟩, hst⟩ : ∃ st, st = rdB body := ⟨_, rfl⟩
      rw [← hst] at v1 v2 v3 v4 v5 v6 hdg ⊢
      simp only at v1 v2 v3 v4 v5 v6 hdg ⊢
      subst hdg
      have hSt := hid hst
      clear hst vd hkl hk hget hb hdot
      have HL2 := hid fun w => lower_v 101 101 rfl (.inr (.inr rfl)) w
      obtain ⟨d0, hd1⟩ : ∃ d, ds[0]? = some d := ⟨ds[0]'(by omega), List.getElem?_eq_getElem (by omega)⟩
      have hdd := hd d0 (List.mem_of_getElem? hd1)
      have hD0 := hgD 0 d0 hd1
      unfold digB at hdd
      simp at hdd
      obtain ⟨f1, f2⟩ := hdd
      have f3 : (48 : Int) ≤ (d0 : Int) := by omega
      have f4 : (d0 : Int) ≤ 57 := by omega
      have HX := hid fun k (hk : k ≤ ds.length) => exV_b hd k hk
      obtain ⟨bl, hbl2⟩ : ∃ bl, bl = body.length := ⟨_, rfl⟩
      rw [← hbl2] at v4 v5 v6 hlenS hgE hgS hD0 hbl
      obtain ⟨ke, ee, -⟩ := bys_get hgE
      have hgD2 := hid hgD
      rw [← hbl2] at hgD2
      rw [← hbl2]
      clear hbl2 hgE hgD
      have hsz := hlenS.out
      rcases hsg with rfl | rfl
      · simp only [List.length_nil, Nat.add_zero] at hD0 hsz hlenS hgD2
        obtain ⟨kd, ed, -⟩ := bys_get hD0
        have g6 : ((1 : Int) + (bl : Int) + 1) < (s.size : Int) := by omega
        have g7 : (1 : Int) + (bl : Int) < (s.size : Int) := by omega
        have n43 : ((d0 : Int) == 43) = false := by simp; omega
        have n45 : ((d0 : Int) == 45) = false := by simp; omega
        clear hsz
        cases dot
        all_goals
          go_upto_region 68 with (go_at_call 167; first | ((with_reducible refine (HL2.out _).mono ?_); rintro E1 w1 ⟨rfl, rfl⟩))
          clear kd ed hD0 f1 f2 f3 f4 n43 n45 ke ee
          go_wp2
          go_loopw [7, 9, 20] (fun i us e w' => ExLoop w1 (1 + bl + 1) ds i us e w') (fun i _ _ _ => ds.length + bl + 5 - (intOf i).toNat)
          case atStart => exact ⟨0, Nat.zero_le _, rfl, rfl, rfl, rfl⟩
          case round =>
            obtain ⟨k, hk, rfl, rfl, rfl, rfl⟩ := hrel
            by_cases hkl : k < ds.length
            · obtain ⟨c, hc⟩ : ∃ c, ds[k]? = some c := ⟨ds[k]'hkl, List.getElem?_eq_getElem hkl⟩
              have hcb := hd c (List.mem_of_getElem? hc)
              unfold digB at hcb
              simp at hcb
              obtain ⟨d1, d2⟩ := hcb
              obtain ⟨kk, ek, -⟩ := bys_get (hgD2.out k c hc)
              obtain ⟨x1, x2⟩ := HX.out k hk
              have hX := hid (show exV (ds.take (k + 1)) = exStep (exV (ds.take k)) c by rw [take_snc hc, exV_snoc])
              generalize exV (ds.take k) = x at x1 x2 hX ⊢
              have f1 : (48 : Int) ≤ (c : Int) := by omega
              have f2 : (c : Int) ≤ 57 := by omega
              have n95 : ((c : Int) == 95) = false := by simp; omega
              have g8 : ((1 : Int) + (bl : Int) + 1 + (k : Int)) < (s.size : Int) := by omega
              clear hc d1 d2 hs hgS hd1 g6 g7 hk
              by_cases hx : x < 10000
              · go_wp2
                go_roundw
                case rel => exact ⟨k + 1, hkl, rfl, by go_num, by rw [hX.out]; unfold exStep; rw [if_pos hx], rfl⟩
                case measure => simp [intOf] <;> omega
              · go_wp2
                go_roundw
                case rel => exact ⟨k + 1, hkl, rfl, by go_num, by rw [hX.out]; unfold exStep; rw [if_neg (by omega)], rfl⟩
                case measure => simp [intOf] <;> omega
            · obtain rfl : k = ds.length := by omega
              obtain ⟨x1, x2⟩ := HX.out _ (Nat.le_refl _)
              rw [List.take_length] at x1 x2 ⊢
              obtain ⟨x, hxe⟩ : ∃ x, x = exV ds := ⟨_, rfl⟩
              rw [← hxe] at x1 x2 ⊢
              have hXe := hid hxe
              clear hxe
              have hsz := hlenS.out
              clear hs hgS hd1 g6 g7 hk
              by_cases hm0 : man = 0
              · have gm : ((man : Int) != 0) = false := by simp [hm0]
                go_wp2
                rw [Exit.noGoto_ret]
                refine bodyPost_ret (results_tmp7 rfl _ _ _) rfl ?_
                exact ⟨by rw [← hSt.out, ← hXe.out]; simp only [hm0, hsz]; rfl, rfl⟩
              · have gm : ((man : Int) != 0) = true := by simp; omega
                go_wp2
                rw [Exit.noGoto_ret]
                refine bodyPost_ret (results_tmp7 rfl _ _ _) rfl ?_
                exact ⟨by rw [← hSt.out, ← hXe.out]; simp only [if_neg hm0, hsz]; rfl, rfl⟩
      · simp only [List.length_singleton, Nat.add_zero] at hD0 hsz hlenS hgD2
        obtain ⟨ks, es, -⟩ := bys_get (hgS rfl)
        have n43 : ((45 : Int) == 43) = false := by decide
        have n45 : ((45 : Int) == 45) = true := by decide
        have g9 : ((1 : Int) + (bl : Int) + 1 + 1) < (s.size : Int) := by omega
        obtain ⟨kd, ed, -⟩ := bys_get hD0
        have g6 : ((1 : Int) + (bl : Int) + 1) < (s.size : Int) := by omega
        have g7 : (1 : Int) + (bl : Int) < (s.size : Int) := by omega
        clear hsz
        cases dot
        all_goals
          go_upto_region 68 with (go_at_call 167; first | ((with_reducible refine (HL2.out _).mono ?_); rintro E1 w1 ⟨rfl, rfl⟩))
          clear kd ed hD0 ks es f1 f2 f3 f4 n43 n45 ke ee
          go_wp2
          go_loopw [7, 9, 20] (fun i us e w' => ExLoop w1 (1 + bl + 1 + 1) ds i us e w') (fun i _ _ _ => ds.length + bl + 5 - (intOf i).toNat)
          case atStart => exact ⟨0, Nat.zero_le _, rfl, rfl, rfl, rfl⟩
          case round =>
            obtain ⟨k, hk, rfl, rfl, rfl, rfl⟩ := hrel
            by_cases hkl : k < ds.length
            · obtain ⟨c, hc⟩ : ∃ c, ds[k]? = some c := ⟨ds[k]'hkl, List.getElem?_eq_getElem hkl⟩
              have hcb := hd c (List.mem_of_getElem? hc)
              unfold digB at hcb
              simp at hcb
              obtain ⟨d1, d2⟩ := hcb
              obtain ⟨kk, ek, -⟩ := bys_get (hgD2.out k c hc)
              obtain ⟨x1, x2⟩ := HX.out k hk
              have hX := hid (show exV (ds.take (k + 1)) = exStep (exV (ds.take k)) c by rw [take_snc hc, exV_snoc])
              generalize exV (ds.take k) = x at x1 x2 hX ⊢
              have f1 : (48 : Int) ≤ (c : Int) := by omega
              have f2 : (c : Int) ≤ 57 := by omega
              have n95 : ((c : Int) == 95) = false := by simp; omega
              have g8 : ((1 : Int) + (bl : Int) + 1 + 1 + (k : Int)) < (s.size : Int) := by omega
              clear hc d1 d2 hs hgS hd1 g6 g7 g9 hk
              by_cases hx : x < 10000
              · go_wp2
                go_roundw
                case rel => exact ⟨k + 1, hkl, rfl, by go_num, by rw [hX.out]; unfold exStep; rw [if_pos hx], rfl⟩
                case measure => simp [intOf] <;> omega
              · go_wp2
                go_roundw
                case rel => exact ⟨k + 1, hkl, rfl, by go_num, by rw [hX.out]; unfold exStep; rw [if_neg (by omega)], rfl⟩
                case measure => simp [intOf] <;> omega
            · obtain rfl : k = ds.length := by omega
              obtain ⟨x1, x2⟩ := HX.out _ (Nat.le_refl _)
              rw [List.take_length] at x1 x2 ⊢
              obtain ⟨x, hxe⟩ : ∃ x, x = exV ds := ⟨_, rfl⟩
              rw [← hxe] at x1 x2 ⊢
              have hXe := hid hxe
              clear hxe
              have hsz := hlenS.out
              clear hs hgS hd1 g6 g7 g9 hk
              by_cases hm0 : man = 0
              · have gm : ((man : Int) != 0) = false := by simp [hm0]
                go_wp2
                rw [Exit.noGoto_ret]
                refine bodyPost_ret (results_tmp7 rfl _ _ _) rfl ?_
                exact ⟨by rw [← hSt.out, ← hXe.out]; simp only [hm0, hsz]; rfl, rfl⟩
              · have gm : ((man : Int) != 0) = true := by simp; omega
                go_wp2
                rw [Exit.noGoto_ret]
                refine bodyPost_ret (results_tmp7 rfl _ _ _) rfl ?_
                exact ⟨by rw [← hSt.out, ← hXe.out]; simp only [if_neg hm0, hsz]; rfl, rfl⟩
theorem readFloat_any (s : ByteArray) (neg : Bool) (body sg ds : List Nat) (hs : bys s = (if neg then [45] else []) ++ body ++ [101] ++ sg ++ ds) (hb : ∀ c ∈ body, digB c = true ∨ c = 46) (hb1 : body ≠ []) (hd : ∀ c ∈ ds, digB c = true) (hd0 : ds ≠ []) (hsg : sg = [] ∨ sg = [45]) (hlen : s.size ≤ 200) (hdg : (rdB body).dig = true) (hdot : body.count 46 ≤ 1) (w : World) :
    Calls Tryz.prog 143 #[.string s] w fun e w' => e = .returned (.tuple #[.int .u64 (rdB body).man, .int .i64 (if (rdB body).man = 0 then 0 else (if (rdB body).dot then (rdB body).dp else (rdB body).nd) + (if sg = [] then exV ds else -exV ds) - (rdB body).nm), .bool neg, .bool (rdB body).cut, .bool false, .int .i64 s.size, .bool true]) ∧ w' = w := by
  cases neg with
  | false => exact readFloat_p s false body sg ds hs hb hb1 hd hd0 hsg hlen hdg hdot rfl w
  | true => exact readFloat_n s true body sg ds hs hb hb1 hd hd0 hsg hlen hdg hdot rfl w
end Go.Proofs.YtfalbdlfopfgcaaGreatDoor

