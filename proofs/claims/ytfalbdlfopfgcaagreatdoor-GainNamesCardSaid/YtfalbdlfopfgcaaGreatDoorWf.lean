/- Words of 32 bits in memory; gridworkwide.trimmed, Of, compare, Bits. Conditions: words are below 2^32, rows not too long. -/
import Derived.Test.YtfalbdlfopfgcaaGreatDoorWe
import Derived.Test.YtfalbdlfopfgcaaGreatDoorBase
namespace Go.Proofs.YtfalbdlfopfgcaaGreatDoor
open Go.RowKit

@[go_sem high] theorem shr1_u32 (x : Int) : Op.shift .shr .u32 x .u64 1 = pure (.int .u32 (x / 2)) := shift_shr .u32 .u64 x 1 (by decide) (by decide)
@[go_sem high] theorem shl31_u32 (x : Int) : Op.shift .shl .u32 x .u64 31 = pure (.int .u32 (IntKind.u32.wrap (x * 2147483648))) := shift_shl .u32 .u64 x 31 (by decide) (by decide)
theorem Dr.more {a b : World} (h : Dr a b) (n : Nat) : Dr a (b.drewN n) := h.trans (Dr.mk _ _)
/-- A word as a value. -/
def wrd (d : Nat) : Value := .int .u32 (d : Int)
/-- The words of a number lie there. -/
def Wn (w : World) (v : Value) (n : Nat) : Prop := Sl w v ((wds n).map wrd)
theorem Wn.below {w w' : World} {v : Value} {n : Nat} (h : Wn w v n) (hb : Below w.heap.size w w') : Wn w' v n := Sl.below h hb
theorem Wn.drewN {w : World} {v : Value} {n : Nat} (h : Wn w v n) (k : Nat) : Wn (w.drewN k) v n := h
theorem Wn.drew {w : World} {v : Value} {n : Nat} (h : Wn w v n) : Wn w.drew v n := h
theorem Wn.alloc {w : World} {v : Value} {n : Nat} (h : Wn w v n) (o : Obj) : Wn (w.alloc o) v n := h.below ((Below.refl _ w).alloc (Nat.le_refl _) o)
theorem Wn.sl {w : World} {v : Value} {n : Nat} (h : Wn w v n) : ∃ a c, v = .slice a (wds n).length c := by
  obtain ⟨a, c, rfl, -⟩ := h
  exact ⟨a, c, by simp⟩
/-- What a row of words says of its cells. -/
theorem Sl.cw {w : World} {v : Value} {l : List Nat} (h : Sl w v (l.map wrd)) : ∃ a cap, v = .slice a l.length cap ∧ l.length ≤ cap ∧ (a = none → cap = 0) ∧ ∀ (i x : Nat), l[i]? = some x → ∃ b off, a = some ⟨b, off, none⟩ ∧ ∀ (j y : Nat), l[j]? = some y → w.cell? ⟨b, off + j, none⟩ = some (.int .u32 (y : Int)) := by
  obtain ⟨a, cap, rfl, hr, hc, hl⟩ := h
  refine ⟨a, cap, by simp, by simpa using hl, hc, fun i x hx => ?_⟩
  obtain ⟨b, off, rfl, hcell⟩ := hr.at (k := i) (x := wrd x) (by rw [List.getElem?_map, hx]; rfl)
  exact ⟨b, off, rfl, fun j y hy => hcell j (wrd y) (by rw [List.getElem?_map, hy]; rfl)⟩
theorem Sl.takeW {w : World} {a : Option Addr} {n cap : Nat} {l : List Nat} (h : Sl w (.slice a n cap) (l.map wrd)) {k : Nat} (hk : k ≤ n) : Sl w (.slice a k cap) ((l.take k).map wrd) := by
  rw [List.map_take]
  exact h.take hk
theorem Wn.trim {w : World} {a : Option Addr} {cap : Nat} {l : List Nat} (hk : Wok l) (h : Sl w (.slice a l.length cap) (l.map wrd)) : Wn w (.slice a (trimN l l.length) cap) (wv l) := by
  unfold Wn
  rw [← trim_all hk]
  exact Sl.takeW h (trimN_le _ _)
def TrLoop (w : World) (l : List Nat) (n : Value) (w' : World) : Prop := ∃ k : Nat, k ≤ l.length ∧ n = .int .i64 (k : Int) ∧ trimN l k = trimN l l.length ∧ w' = w
set_option maxRecDepth 100000 in
set_option maxHeartbeats 4000000 in
theorem wtrimmed_any (w : World) (a : Option Addr) (cap : Nat) (l : List Nat) (hl : l.length ≤ 1000000) (hs : Sl w (.slice a l.length cap) (l.map wrd)) : Calls Tryz.prog 80 #[.slice a l.length cap] w fun E w' => E = .returned (.slice a (trimN l l.length) cap) ∧ w' = w := by
  obtain ⟨a', cap', e, hcap, -, hc⟩ := hs.cw
  cases e
  have hci : (l.length : Int) ≤ (cap : Int) := by omega
  clear hs
  go_enter Tryz.func80, Tryz.ntmps80
  go_wp2
  go_loopw [3] (fun n w' => TrLoop w l n w') (fun n _ => (intOf n).toNat)
  case atStart => exact ⟨l.length, Nat.le_refl _, rfl, rfl, rfl⟩
  case round =>
    obtain ⟨k, hk, rfl, ht, rfl⟩ := hrel
    have HT := hid ht
    clear ht
    by_cases hk0 : 0 < k
    · obtain ⟨j, rfl⟩ : ∃ j, k = j + 1 := ⟨k - 1, by omega⟩
      obtain ⟨x, hx⟩ : ∃ x, l[j]? = some x := ⟨l[j]'(by omega), List.getElem?_eq_getElem (by omega)⟩
      obtain ⟨b, off, rfl, hcell⟩ := hc j x hx
      have h1 := hcell j x hx
      have g1 : ((j + 1 : Nat) : Int) - 1 = (j : Int) := by omega
      have hd : l.getD j 0 = x := by rw [List.getD_eq_getElem?_getD, hx]; rfl
      have HD := hid hd
      clear hd hx hcell hc
      by_cases hx0 : x = 0
      · have h2 : ((x : Int) == 0) = true := by simp [hx0]
        have HX := hid hx0
        clear hx0
        go_wp2
        go_roundw
        case rel => exact ⟨j, by omega, by go_num, by rw [← HT.out, trimN, if_pos (by rw [HD.out, HX.out])], rfl⟩
        case measure => simp [intOf]
      · have h2 : ((x : Int) == 0) = false := by simp; omega
        have HX := hid hx0
        clear hx0
        go_wp2
        go_ret
        refine ⟨?_, rfl⟩
        rw [← HT.out, trimN, if_neg (by rw [HD.out]; exact HX.out)]
        rfl
    · obtain rfl : k = 0 := by omega
      go_wp2
      go_ret
      refine ⟨?_, rfl⟩
      rw [← HT.out]
      rfl
theorem results_int {fn : Func} {p : Tmp} (h : fn.results = #[.cell p 85]) (tmps : Array Value) (w : World) (b : Nat) (x y : Value) (hp : tmps.getD p undef = .pointer (some ⟨b, 0, none⟩)) (c0 : w.cell? ⟨b, 0, none⟩ = some x) (c1 : w.cell? ⟨b, 1, none⟩ = some y) : (results fn tmps).run Tryz.prog w = .ok (.agg #[x, y]) w := by
  simp only [Array.getD_eq_getD_getElem?] at hp ⊢
  simp [results, h, hp, go_sem, c0, c1, Sem.run_bind, Result.andThen]
/-- A number told: its sign, its words; what was there stays. -/
def RetI (w : World) (s : Bool) (n : Nat) (E : Ending) (w' : World) : Prop := ∃ v, E = .returned (.agg #[.bool s, v]) ∧ Wn w' v n ∧ Below w.heap.size w w'
set_option maxRecDepth 100000 in
set_option maxHeartbeats 4000000 in
theorem wOf_any (w : World) (n : Nat) (hn : IsW n) : Calls Tryz.prog 50 #[.int .u64 n] w (RetI w false n) := by
  obtain ⟨a, ha⟩ : ∃ a, a = n % 4294967296 := ⟨_, rfl⟩
  obtain ⟨q, hq⟩ : ∃ q, q = n / 4294967296 := ⟨_, rfl⟩
  have hql : q < 4294967296 := by unfold IsW at hn; omega
  have hal : a < 4294967296 := by omega
  have g1 : IntKind.u32.wrap (n : Int) = (a : Int) := by rw [IntKind.wrap_u32]; omega
  have g2 : (n : Int) / 4294967296 = (q : Int) := by omega
  have hv := hid (show wv [a, q] = n by show a + 4294967296 * (q + 4294967296 * 0) = n; omega)
  have hk : Wok [a, q] := fun d hd => by
    rcases List.mem_cons.1 hd with rfl | hd
    · exact hal
    · rw [List.mem_singleton.1 hd]; exact hql
  clear ha hq hn
  have hs2 : ∀ o : Obj, Sl ((w.alloc o).alloc (.cells #[.int .u32 a, .int .u32 q] 90)) (.slice (some ⟨w.heap.size + 1, 0, none⟩) 2 2) ([a, q].map wrd) := by
    intro o
    refine ⟨_, _, rfl, fun _ => ⟨w.heap.size + 1, 0, rfl, fun i x hx => ?_⟩, by simp, by simp⟩
    have e : (w.alloc o).heap.size = w.heap.size + 1 := by simp
    rw [← e, World.cell?_alloc_new]
    match i, hx with
    | 0, hx => simp at hx; subst hx; rfl
    | 1, hx => simp at hx; subst hx; rfl
    | i + 2, hx => simp at hx
  have HT := hid (wtrimmed_any _ (some ⟨w.heap.size + 1, 0, none⟩) 2 [a, q] (by simp) (hs2 (.cells #[.bool false, .slice none 0 0] 85)))
  rw [show ([a, q] : List Nat).length = 2 from rfl] at HT
  have HW := hid fun o => Wn.trim hk (hs2 o)
  rw [hv.out] at HW
  clear hs2 hk
  go_enter Tryz.func50, Tryz.ntmps50
  go_wp2_with (go_at_call 80; (with_reducible refine HT.out.mono ?_); rintro E3 w3 ⟨rfl, rfl⟩)
  refine bodyPost_ret (results_int rfl _ _ w.heap.size (.bool false) (.slice (some ⟨w.heap.size + 1, 0, none⟩) (trimN [a, q] 2) 2) rfl (by rw [World.cell?_alloc_lt _ _ _ (by simp), World.cell?_alloc_new]; rfl) (by rw [World.cell?_alloc_lt _ _ _ (by simp), World.cell?_alloc_new]; rfl)) rfl ?_
  exact ⟨_, rfl, HW.out _, ((Below.refl _ w).alloc (Nat.le_refl _) _).alloc (by simp) _⟩
def CmpLoop (w : World) (la lb : List Nat) (n : Nat) (i : Value) (w' : World) : Prop := ∃ j : Nat, j ≤ n ∧ i = .int .i64 ((j : Int) - 1) ∧ la.drop j = lb.drop j ∧ Dr w w'
set_option maxRecDepth 100000 in
set_option maxHeartbeats 4000000 in
theorem wcompare_any (w : World) (va vb : Value) (a b : Nat) (ha : Wn w va a) (hb : Wn w vb b) (hal : (wds a).length ≤ 1000000) (_hbl : (wds b).length ≤ 1000000) : Calls Tryz.prog 76 #[va, vb] w fun E w' => E = .returned (.int .i64 (cmpN a b)) ∧ Dr w w' := by
  obtain ⟨aa, ca, rfl, -, -, hca⟩ := Sl.cw ha
  obtain ⟨ab, cb, rfl, -, -, hcb⟩ := Sl.cw hb
  clear ha hb
  by_cases hlen : (wds a).length = (wds b).length
  · obtain ⟨la, hla⟩ : ∃ la, la = wds a := ⟨_, rfl⟩
    obtain ⟨lb, hlb⟩ : ∃ lb, lb = wds b := ⟨_, rfl⟩
    have HA := hid (show wv la = a by rw [hla, wv_wds])
    have HB := hid (show wv lb = b by rw [hlb, wv_wds])
    have HKa := hid (show Wok la by rw [hla]; exact wok_wds a)
    have HKb := hid (show Wok lb by rw [hlb]; exact wok_wds b)
    rw [← hla] at hlen hal hca ⊢
    rw [← hlb] at hlen _hbl hcb ⊢
    clear hla hlb
    obtain ⟨n, hn⟩ : ∃ n, n = la.length := ⟨_, rfl⟩
    have hn2 : n = lb.length := by omega
    rw [← hn] at hal ⊢
    rw [← hn2]
    replace hn := hid hn
    replace hn2 := hid hn2
    clear _hbl hlen
    go_enter Tryz.func76, Tryz.ntmps76
    go_wp2
    go_loopw [5] (fun i w' => CmpLoop w la lb n i w') (fun i _ => (intOf i + 1).toNat)
    case atStart => exact ⟨n, Nat.le_refl _, rfl, by rw [List.drop_of_length_le (Nat.le_of_eq hn.out.symm), List.drop_of_length_le (Nat.le_of_eq hn2.out.symm)], Dr.refl _⟩
    case round =>
      obtain ⟨j, hj, rfl, hd, nd, rfl⟩ := hrel
      have HD := hid hd
      clear hd
      match j, hj, HD with
      | 0, hj, HD =>
        have hR := hid (show cmpN a b = 0 by
          have h := HD.out
          rw [List.drop_zero, List.drop_zero] at h
          rw [← HA.out, ← HB.out, h]
          unfold cmpN
          rw [if_neg (Nat.lt_irrefl _), if_neg (Nat.lt_irrefl _)])
        go_wp2
        go_ret
        exact ⟨by rw [hR.out]; rfl, (by repeat (first | with_reducible exact Dr.refl _ | with_reducible refine Dr.more ?_ _))⟩
      | j + 1, hj, HD =>
        have e1 : (((j + 1 : Nat) : Int) - 1) = (j : Int) := by omega
        rw [e1]
        obtain ⟨x, hx⟩ : ∃ x, la[j]? = some x := ⟨la[j]'(by have := hn.out; omega), List.getElem?_eq_getElem _⟩
        obtain ⟨y, hy⟩ : ∃ y, lb[j]? = some y := ⟨lb[j]'(by have := hn2.out; omega), List.getElem?_eq_getElem _⟩
        obtain ⟨b1, o1, rfl, h1⟩ := hca j x hx
        obtain ⟨b2, o2, rfl, h2⟩ := hcb j y hy
        have k1 : w.cell? ⟨b1, o1 + j, none⟩ = some (.int .u32 (x : Int)) := h1 j x hx
        have k2 : w.cell? ⟨b2, o2 + j, none⟩ = some (.int .u32 (y : Int)) := h2 j y hy
        have HX := hid hx
        have HY := hid hy
        clear hx hy h1 h2 hca hcb
        rcases Nat.lt_trichotomy x y with hxy | hxy | hxy
        · have g1 : (x : Int) < (y : Int) := by omega
          have hR := hid (show cmpN a b = -1 by
            have := cmp_lt HKa.out HX.out HY.out hxy HD.out
            rw [← HA.out, ← HB.out]
            unfold cmpN
            rw [if_pos this])
          go_wp2
          go_quiet (fail)
          go_wp2
          go_ret
          exact ⟨by rw [hR.out]; rfl, (by repeat (first | with_reducible exact Dr.refl _ | with_reducible refine Dr.more ?_ _))⟩
        · subst hxy
          have HD2 := hid (drop_step HX.out HY.out HD.out)
          go_wp2
          go_quiet (fail)
          go_wp2
          go_quiet (fail)
          go_wp2
          go_roundw
          case rel => exact ⟨j, by omega, by go_num, HD2.out, (by repeat (first | with_reducible exact Dr.refl _ | with_reducible refine Dr.more ?_ _))⟩
          case measure => simp [intOf]
        · have g1 : ¬ (x : Int) < (y : Int) := by omega
          have g2 : (y : Int) < (x : Int) := by omega
          have hR := hid (show cmpN a b = 1 by
            have := cmp_lt HKb.out HY.out HX.out hxy HD.out.symm
            rw [← HA.out, ← HB.out]
            unfold cmpN
            rw [if_neg (by omega), if_pos this])
          go_wp2
          go_quiet (fail)
          go_wp2
          go_quiet (fail)
          go_wp2
          go_ret
          exact ⟨by rw [hR.out]; rfl, (by repeat (first | with_reducible exact Dr.refl _ | with_reducible refine Dr.more ?_ _))⟩
  · by_cases hlt : (wds a).length < (wds b).length
    · have hR := hid (show cmpN a b = -1 by unfold cmpN; rw [if_pos (wds_lt hlt)])
      obtain ⟨m, hm⟩ : ∃ m, m = (wds a).length := ⟨_, rfl⟩
      obtain ⟨n, hn⟩ : ∃ n, n = (wds b).length := ⟨_, rfl⟩
      rw [← hm, ← hn] at hlt ⊢
      rw [← hm] at hal hlen
      rw [← hn] at _hbl hlen
      clear hm hn hca hcb
      have g0 : ((m : Int) != (n : Int)) = true := by simp; omega
      go_enter Tryz.func76, Tryz.ntmps76
      go_wp2
      go_ret
      exact ⟨by rw [hR.out]; rfl, (by repeat (first | with_reducible exact Dr.refl _ | with_reducible refine Dr.more ?_ _))⟩
    · have hR := hid (show cmpN a b = 1 by
        have := wds_lt (a := b) (b := a) (by omega)
        unfold cmpN
        rw [if_neg (by omega), if_pos this])
      obtain ⟨m, hm⟩ : ∃ m, m = (wds a).length := ⟨_, rfl⟩
      obtain ⟨n, hn⟩ : ∃ n, n = (wds b).length := ⟨_, rfl⟩
      rw [← hm, ← hn] at hlt ⊢
      rw [← hm] at hal hlen
      rw [← hn] at _hbl hlen
      clear hm hn hca hcb
      have g0 : ((m : Int) != (n : Int)) = true := by simp; omega
      go_enter Tryz.func76, Tryz.ntmps76
      go_wp2
      go_ret
      exact ⟨by rw [hR.out]; rfl, (by repeat (first | with_reducible exact Dr.refl _ | with_reducible refine Dr.more ?_ _))⟩
theorem bits32 {y : Nat} (hy : y < 4294967296) : bitsN y ≤ 32 := by
  by_cases h0 : y = 0
  · rw [h0]; decide
  · have h5 := bits_le h0
    rcases Nat.lt_or_ge 32 (bitsN y) with h6 | h6
    · have := Nat.pow_le_pow_right (show 0 < 2 by decide) (show 32 ≤ bitsN y - 1 by omega)
      omega
    · exact h6
def BtLoop (w : World) (t : Nat) (n x : Value) (w' : World) : Prop := ∃ j y : Nat, n = .int .i64 (j : Int) ∧ x = .int .u32 (y : Int) ∧ y < 4294967296 ∧ j + bitsN y = t ∧ w' = w
set_option maxRecDepth 100000 in
set_option maxHeartbeats 4000000 in
theorem wBits_any (w : World) (s : Bool) (v : Value) (a : Nat) (ha : Wn w v a) (hal : (wds a).length ≤ 1000000) : Calls Tryz.prog 45 #[.agg #[.bool s, v]] w fun E w' => E = .returned (.int .i64 (bitsN a : Nat)) ∧ Below w.heap.size w w' := by
  have hsl := Wn.alloc ha (.cells #[.bool s, v] 85)
  obtain ⟨aa, ca, rfl, -, -, hca⟩ := Sl.cw hsl
  have b1 : Below w.heap.size w (w.alloc (.cells #[.bool s, .slice aa (wds a).length ca] 85)) := (Below.refl _ w).alloc (Nat.le_refl _) _
  clear ha hsl
  by_cases h0 : a = 0
  · subst h0
    rw [wds_0]
    go_enter Tryz.func45, Tryz.ntmps45
    go_wp2
    go_ret
    exact ⟨rfl, (Below.refl _ w).alloc (Nat.le_refl _) _⟩
  · obtain ⟨t, ht, htl, ht0, hbt⟩ := bits_wds a h0
    obtain ⟨m, hm⟩ : ∃ m, (wds a).length = m + 1 := ⟨(wds a).length - 1, by have := (List.getElem?_eq_some_iff.1 ht).1; omega⟩
    rw [hm, Nat.add_sub_cancel] at ht hbt
    obtain ⟨b, o, rfl, hcell⟩ := hca m t ht
    have k1 := hcell m t ht
    rw [hm] at k1 b1 hal ⊢
    have g1 : (((m + 1 : Nat) : Int) == 0) = false := by simp; omega
    have g2 : ((m + 1 : Nat) : Int) - 1 = (m : Int) := by omega
    have ht32 : bitsN t ≤ 32 := bits32 htl
    replace hbt := hid hbt
    clear hca hcell ht hm h0
    go_enter Tryz.func45, Tryz.ntmps45
    go_wp2
    obtain ⟨w1, hw1⟩ : ∃ w1, w1 = w.alloc (.cells #[.bool s, .slice (some ⟨b, o, none⟩) (m + 1) ca] 85) := ⟨_, rfl⟩
    rw [← hw1] at b1 ⊢
    clear hw1 k1 g1 g2
    go_loopw [3, 4] (fun n x w' => BtLoop w1 (bitsN a) n x w') (fun _ x _ => (intOf x).toNat)
    case atStart => exact ⟨32 * m, t, by go_num, rfl, htl, hbt.out.symm, rfl⟩
    case round =>
      obtain ⟨j, y, rfl, rfl, hy, he, rfl⟩ := hrel
      have HE := hid he
      have hj : j ≤ 32 * m + 32 := by have := hbt.out; have := HE.out; omega
      clear he
      by_cases hy0 : 0 < y
      · have HH := hid (bits_half hy0)
        obtain ⟨z, hz⟩ : ∃ z, z = y / 2 := ⟨_, rfl⟩
        have g1 : (y : Int) / 2 = (z : Int) := by omega
        rw [← hz] at HH
        replace hz := hid hz
        go_wp2
        go_roundw
        case rel => exact ⟨j + 1, z, by go_num, rfl, by have := hz.out; omega, by rw [← HE.out, HH.out]; omega, rfl⟩
        case measure => have := hz.out; simp [intOf]; omega
      · obtain rfl : y = 0 := by omega
        go_wp2
        go_ret
        exact ⟨by rw [← HE.out]; rfl, b1⟩
end Go.Proofs.YtfalbdlfopfgcaaGreatDoor

