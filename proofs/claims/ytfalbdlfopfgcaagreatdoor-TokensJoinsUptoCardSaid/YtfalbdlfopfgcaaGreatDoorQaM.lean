/- quantity.digits; quantity.Parse of the two words of TokensNames. Condition: the tables lie there. How a text falls into its parts; what gridworkref05.Exact makes of them, plainly. No program; no condition. -/
import Derived.Test.YtfalbdlfopfgcaaGreatDoorPeM
import Derived.Test.YtfalbdlfopfgcaaGreatDoorShelf
import Derived.Test.YtfalbdlfopfgcaaGreatDoorTBldM
import Derived.Test.YtfalbdlfopfgcaaGreatDoorSgM
namespace Go.Proofs.YtfalbdlfopfgcaaGreatDoor
open Go.RowKit

/-- How many digits lead a row, so many at most. -/
def digN : List Nat → Nat → Nat
  | _, 0 => 0
  | [], _ + 1 => 0
  | c :: l, m + 1 => if digB c = true then digN l m + 1 else 0
def DgLoop (w : World) (l : List Nat) (m : Nat) (n : Value) (w' : World) : Prop := ∃ k, k ≤ m ∧ k ≤ l.length ∧ n = .int .i64 (k : Int) ∧ digN l m = k + digN (l.drop k) (m - k) ∧ w' = w
theorem digN_in {l : List Nat} {k m c : Nat} (h : l[k]? = some c) (hk : k < m) (hd : digB c = true) : digN (l.drop k) (m - k) = 1 + digN (l.drop (k + 1)) (m - (k + 1)) := by
  have hl := (List.getElem?_eq_some_iff.1 h).1
  obtain ⟨q, hq⟩ : ∃ q, m - k = q + 1 := ⟨m - k - 1, by omega⟩
  rw [List.drop_eq_getElem_cons hl, (List.getElem?_eq_some_iff.1 h).2, hq, digN, if_pos hd, show m - (k + 1) = q by omega]
  omega
theorem digN_out {l : List Nat} {k m c : Nat} (h : l[k]? = some c) (hk : k < m) (hd : digB c = false) : digN (l.drop k) (m - k) = 0 := by
  have hl := (List.getElem?_eq_some_iff.1 h).1
  obtain ⟨q, hq⟩ : ∃ q, m - k = q + 1 := ⟨m - k - 1, by omega⟩
  rw [List.drop_eq_getElem_cons hl, (List.getElem?_eq_some_iff.1 h).2, hq, digN, if_neg (by rw [hd]; decide)]
theorem digN_nil {l : List Nat} {k m : Nat} (h : l.length ≤ k) : digN (l.drop k) (m - k) = 0 := by
  rw [List.drop_eq_nil_of_le h]
  cases m - k <;> rfl
set_option maxRecDepth 100000 in
set_option maxHeartbeats 4000000 in
theorem digits_any (s : ByteArray) (at_ most : Nat) (hs : s.size ≤ 100000) (ha : at_ ≤ s.size) (hm : most ≤ 100000) (w : World) : Calls Tryz.prog 90 #[.string s, .int .i64 at_, .int .i64 most] w fun e w' => e = .returned (.int .i64 (digN ((bys s).drop at_) most : Nat)) ∧ w' = w := by
  have hl : ((bys s).drop at_).length = s.size - at_ := by rw [List.length_drop, bys_len]
  have hG := hid fun k c (h : ((bys s).drop at_)[k]? = some c) => bys_get (k := at_ + k) (m := c) (by rwa [List.getElem?_drop] at h)
  obtain ⟨l, hL⟩ : ∃ l, l = (bys s).drop at_ := ⟨_, rfl⟩
  rw [← hL] at hG hl ⊢
  clear hL
  go_enter Tryz.func90, Tryz.ntmps90
  go_wp2
  go_loopw [7] (fun n w' => DgLoop w l most n w') (fun n _ => most - (intOf n).toNat)
  case atStart => exact ⟨0, Nat.zero_le _, Nat.zero_le _, rfl, by rw [List.drop_zero, Nat.sub_zero, Nat.zero_add], rfl⟩
  case round =>
    obtain ⟨k, hk, hkl, rfl, hd, rfl⟩ := hrel
    have hD := hid hd
    clear hd
    by_cases h1 : k < most
    · have e1 : (k : Int) < (most : Int) := by omega
      by_cases h2 : k < l.length
      · have e2 : (at_ : Int) + (k : Int) < (s.size : Int) := by omega
        obtain ⟨c, hc⟩ : ∃ c, l[k]? = some c := ⟨l[k]'h2, List.getElem?_eq_getElem h2⟩
        obtain ⟨kk, ek, -⟩ := hG.out k c hc
        cases hdc : digB c with
        | true =>
          have hN := hid ((hD.out.trans (congrArg (k + ·) (digN_in hc h1 hdc))))
          unfold digB at hdc
          simp at hdc
          obtain ⟨d1, d2⟩ := hdc
          have f1 : (48 : Int) ≤ (c : Int) := by omega
          have f2 : (c : Int) ≤ 57 := by omega
          clear hc
          go_wp2
          go_roundw
          case rel => exact ⟨k + 1, h1, h2, by go_num, by rw [hN.out]; omega, rfl⟩
          case measure => simp [intOf] <;> omega
        | false =>
          have hN := hid ((hD.out.trans (congrArg (k + ·) (digN_out hc h1 hdc))))
          have f3 : (48 : Int) ≤ (c : Int) → ¬ (c : Int) ≤ 57 := by
            unfold digB at hdc
            simp at hdc
            omega
          clear hc hdc
          by_cases f1 : (48 : Int) ≤ (c : Int)
          · have f2 := f3 f1
            clear f3
            go_wp2
            go_ret
            exact ⟨by rw [hN.out]; rfl, rfl⟩
          · clear f3
            go_wp2
            go_ret
            exact ⟨by rw [hN.out]; rfl, rfl⟩
      · have e2 : ¬ (at_ : Int) + (k : Int) < (s.size : Int) := by omega
        have hN := hid ((hD.out.trans (congrArg (k + ·) (digN_nil (m := most) (Nat.le_of_not_lt h2)))))
        go_wp2
        go_ret
        exact ⟨by rw [hN.out]; rfl, rfl⟩
    · have e1 : ¬ (k : Int) < (most : Int) := by omega
      have hN := hid (hD.out.trans (show k + digN (l.drop k) (most - k) = k by rw [show most - k = 0 by omega]; cases l.drop k <;> rfl))
      go_wp2
      go_ret
      exact ⟨by rw [hN.out]; rfl, rfl⟩
theorem prefix_k (w : World) : Calls Tryz.prog 92 #[.int .u8 107] w fun e w' => e = .returned (.tuple #[.int .i64 3, .bool true]) ∧ w' = w := by
  go_enter Tryz.func92, Tryz.ntmps92
  go_wp2
  go_ret2
  exact ⟨rfl, rfl⟩
set_option maxRecDepth 100000 in
theorem cut_47k (w : World) : Calls Tryz.prog 67 #[.string ⟨#[52, 46, 55, 107]⟩] w fun e w' => e = .returned (.tuple #[.int .i64 3, .int .i64 3, .int .i64 (-1)]) ∧ w' = w := by
  have H1 : Hid (∀ w, Calls Tryz.prog 90 #[.string ⟨#[52, 46, 55, 107]⟩, .int .i64 0, .int .i64 4] w fun e w' => e = .returned (.int .i64 1) ∧ w' = w) := hid fun w => by
    have h := digits_any ⟨#[52, 46, 55, 107]⟩ 0 4 (by decide) (by decide) (by decide) w
    rw [show digN ((bys ⟨#[52, 46, 55, 107]⟩).drop 0) 4 = 1 by decide +kernel] at h
    exact h
  have H2 : Hid (∀ w, Calls Tryz.prog 90 #[.string ⟨#[52, 46, 55, 107]⟩, .int .i64 2, .int .i64 4] w fun e w' => e = .returned (.int .i64 1) ∧ w' = w) := hid fun w => by
    have h := digits_any ⟨#[52, 46, 55, 107]⟩ 2 4 (by decide) (by decide) (by decide) w
    rw [show digN ((bys ⟨#[52, 46, 55, 107]⟩).drop 2) 4 = 1 by decide +kernel] at h
    exact h
  have H3 := hid fun w => Tryz.strings_TrimPrefix ⟨#[52, 46, 55, 107]⟩ ⟨#[45]⟩ w
  rw [show Lib.trimPrefix (ByteArray.mk #[52, 46, 55, 107]).data.toList (ByteArray.mk #[45]).data.toList = [52, 46, 55, 107] by decide +kernel] at H3
  have H4 := hid prefix_k
  have e3 : ((ByteArray.mk #[52, 46, 55, 107])[3]'(by decide)).toNat = 107 := by decide +kernel
  go_enter Tryz.func67, Tryz.ntmps67
  go_wp2_with (first
    | (go_at_call 89; (with_reducible refine (H3.out _).mono ?_); rintro E1 w1 ⟨rfl, rfl⟩)
    | (go_at_call 92; (with_reducible refine (H4.out _).mono ?_); rintro E1 w1 ⟨rfl, rfl⟩)
    | (go_at_call 90; first | ((with_reducible refine (H1.out _).mono ?_); rintro E1 w1 ⟨rfl, rfl⟩) | ((with_reducible refine (H2.out _).mono ?_); rintro E1 w1 ⟨rfl, rfl⟩)))
  go_ret3
  exact ⟨rfl, rfl⟩
set_option maxRecDepth 100000 in
theorem cut_x (w : World) : Calls Tryz.prog 67 #[.string ⟨#[120]⟩] w fun e w' => e = .returned (.tuple #[.int .i64 0, .int .i64 0, .int .i64 0]) ∧ w' = w := by
  have H1 : Hid (∀ w, Calls Tryz.prog 90 #[.string ⟨#[120]⟩, .int .i64 0, .int .i64 1] w fun e w' => e = .returned (.int .i64 0) ∧ w' = w) := hid fun w => by
    have h := digits_any ⟨#[120]⟩ 0 1 (by decide) (by decide) (by decide) w
    rw [show digN ((bys ⟨#[120]⟩).drop 0) 1 = 0 by decide +kernel] at h
    exact h
  have H3 := hid fun w => Tryz.strings_TrimPrefix ⟨#[120]⟩ ⟨#[45]⟩ w
  rw [show Lib.trimPrefix (ByteArray.mk #[120]).data.toList (ByteArray.mk #[45]).data.toList = [120] by decide +kernel] at H3
  go_enter Tryz.func67, Tryz.ntmps67
  go_wp2_with (first
    | (go_at_call 89; (with_reducible refine (H3.out _).mono ?_); rintro E1 w1 ⟨rfl, rfl⟩)
    | (go_at_call 90; first | ((with_reducible refine (H1.out _).mono ?_); rintro E1 w1 ⟨rfl, rfl⟩)))
  go_ret3
  exact ⟨rfl, rfl⟩
/-- The small table of whole powers, by which Itoa writes. -/
def I10 (w : World) : Prop := Lib.TabIs Tryz.prog w "internal/strconv.uint64pow10" .u64 Lib.pow10Tab
theorem pf_47 (w : World) (hT : Tabs w) : Calls Tryz.prog 68 #[.string ⟨#[52, 46, 55, 101, 51]⟩, .int .i64 64] w fun e w' => e = .returned (.tuple #[.float .f64 4661889719351640064, .nilIface]) ∧ Below w.heap.size w w' := by
  have hb : ∀ c ∈ [52, 46, 55], digB c = true ∨ c = 46 := by decide
  have hR := fun w => readFloat_any ⟨#[52, 46, 55, 101, 51]⟩ false [52, 46, 55] [] [51] (by decide +kernel) hb (by decide) (by decide) (by decide) (.inl rfl) (by decide) (by decide) (by decide) w
  have hS := fun w => special_d ⟨#[52, 46, 55, 101, 51]⟩ 52 (by decide +kernel) (.inl (by decide)) w
  have h := ParseFloat_ok ⟨#[52, 46, 55, 101, 51]⟩ 47 2 false w (atof_any _ 47 5 2 false (by decide) hS hR w hT) (by unfold atG; rw [if_neg (by decide), if_neg (by decide), if_neg (by decide), if_pos (by decide +kernel)])
  rw [show atV 47 2 false = some 4661889719351640064 by decide +kernel] at h
  refine h.mono ?_
  rintro e w' ⟨r, rfl, hr, hb⟩
  rw [val_inj hr]
  exact ⟨rfl, hb⟩
theorem isInf_47 (w : World) : Calls Tryz.prog 70 #[.float .f64 4661889719351640064, .int .i64 0] w fun e w' => e = .returned (.bool false) ∧ w' = w := by
  have hA : Hid (∀ w, Calls Tryz.prog 84 #[.float .f64 4661889719351640064] w fun e w' => e = .returned (.float .f64 4661889719351640064) ∧ w' = w) := hid fun w => by
    have e1 : bits .andNot .u64 4661889719351640064 9223372036854775808 = 4661889719351640064 := by decide +kernel
    go_enter Tryz.func84, Tryz.ntmps84
    go_wp2
    go_ret
    exact ⟨rfl, rfl⟩
  go_enter Tryz.func70, Tryz.ntmps70
  go_wp2_with (go_at_call 84; (with_reducible refine (hA.out _).mono ?_); rintro E1 w1 ⟨rfl, rfl⟩)
  go_ret
  exact ⟨(by rw [← show flt (val 9218868437227405311) (val 4661889719351640064) = false by decide +kernel]; rfl), rfl⟩
theorem fault_step {w w' : World} {b : Nat} {x y : Int} (h : FaultAt w b x y) (hb : Below w.heap.size w w') : FaultAt w' b x y := by
  unfold FaultAt at *
  rw [hb.block b (Array.getElem?_eq_some_iff.1 h).1, h]
/-- A number and a fault. -/
def RetNum (w : World) (v : Option Nat) (x y : Int) (E : Ending) (w' : World) : Prop := ∃ r, E = .returned (.tuple #[.float .f64 r, .agg #[.int .i64 x, .int .i64 y]]) ∧ val r = v ∧ Below w.heap.size w w'
set_option maxRecDepth 100000 in
theorem Parse_47k (w : World) (hT : Tabs w) : Calls Tryz.prog 40 #[.string ⟨#[52, 46, 55, 107]⟩] w (RetNum w (some 4661889719351640064) 0 0) := by
  have H1 := hid cut_47k
  have H2 := hid pf_47
  have H3 : Hid (∀ w, Calls Tryz.prog 69 #[.int .i64 3] w fun e w' => e = .returned (.string ⟨#[51]⟩) ∧ w' = w) := hid fun w => by
    have h := Tryz.strconv_Itoa_small 3 (by decide) w
    rw [show (Lib.decDigits 3).toArray = #[51] by decide +kernel] at h
    exact h
  have H4 := hid isInf_47
  have HT := hid hT
  clear hT
  go_enter Tryz.func40, Tryz.ntmps40
  go_wp2_with (first
    | (go_at_call 67; (with_reducible refine (H1.out _).mono ?_); rintro E1 w1 ⟨rfl, rfl⟩)
    | (go_at_call 69; (with_reducible refine (H3.out _).mono ?_); rintro E1 w1 ⟨rfl, rfl⟩)
    | (go_at_call 70; (with_reducible refine (H4.out _).mono ?_); rintro E1 w1 ⟨rfl, rfl⟩))
  have hb0 : Below w.heap.size w (w.alloc (.cells #[.int .i64 0, .int .i64 0] 25)) := (Below.refl _ w).alloc (Nat.le_refl _) _
  have hf := FaultAt.new w 0 0
  obtain ⟨w1, hw1⟩ : ∃ w1, w1 = w.alloc (.cells #[.int .i64 0, .int .i64 0] 25) := ⟨_, rfl⟩
  rw [← hw1] at hb0 hf ⊢
  have HT1 := HT.out.below hb0
  have H2b := hid (pf_47 w1.drew ⟨HT1.p, HT1.f, HT1.o, HT1.b⟩)
  rw [show ByteArray.mk #[52, 46, 55, 101, 51] = (ByteArray.mk #[52, 46, 55, 107]).extract 0 3 ++ ByteArray.mk #[101] ++ ByteArray.mk #[51] by decide +kernel] at H2b
  clear hw1 HT1 H2
  go_region_with (first
    | (go_at_call 69; (with_reducible refine (H3.out _).mono ?_); rintro E1 w9 ⟨rfl, rfl⟩)
    | (go_at_call 68; (with_reducible refine H2b.out.mono ?_); rintro E2 w2 ⟨rfl, hb2⟩))
  all_goals
    have hd1 : Below w1.heap.size w1 w1.drew := ⟨rfl, rfl, rfl, Nat.le_refl _, fun _ _ => rfl⟩
    have hf2 := fault_step hf (hd1.trans hb2)
    have hb3 : Below w.heap.size w w2 := hb0.trans ((hd1.trans hb2).mono hb0.size)
    clear hd1
    clear hf hb2 H2b
    have c0 := hf2.c0
    have c1 := hf2.c1
    have f0 := hf2.fr 0
    have f1 := hf2.fr 1
    go_wp2_with (go_at_call 70; (with_reducible refine (H4.out _).mono ?_); rintro E1 w1 ⟨rfl, rfl⟩)
    refine bodyPost_ret (results_fault rfl _ _ w.heap.size 0 0 rfl (hf2.set2 0 0)) rfl ?_
    exact ⟨_, rfl, by decide +kernel, below_set2 hb3 _ _⟩
set_option maxRecDepth 100000 in
theorem Parse_x (w : World) : Calls Tryz.prog 40 #[.string ⟨#[120]⟩] w (RetNum w (some 0) 150 0) := by
  have H1 := hid cut_x
  have hb0 : Below w.heap.size w (w.alloc (.cells #[.int .i64 0, .int .i64 0] 25)) := (Below.refl _ w).alloc (Nat.le_refl _) _
  go_enter Tryz.func40, Tryz.ntmps40
  go_wp2_with (first
    | (go_at_call 67; (with_reducible refine (H1.out _).mono ?_); rintro E1 w1 ⟨rfl, rfl⟩))
  refine bodyPost_ret (results_fault rfl _ _ w.heap.size 150 0 rfl (FaultAt.new _ _ _)) rfl ?_
  exact ⟨0, rfl, by decide +kernel, (Below.refl _ w).alloc (Nat.le_refl _) _⟩
set_option maxRecDepth 100000 in
set_option maxHeartbeats 4000000 in
theorem Number_of (s : ByteArray) (a b : Int) (v : Option Nat) (x y : Int) (w : World) (h : ∀ w', Below w.heap.size w w' → Calls Tryz.prog 40 #[.string s] w' (RetNum w' v x y)) : Calls Tryz.prog 9 #[.agg #[.string s, .int .i64 a, .int .i64 b]] w (RetNum w v x y) := by
  have b1 : Below w.heap.size w (w.alloc (.cells #[.string s, .int .i64 a, .int .i64 b] 33)) := (Below.refl _ w).alloc (Nat.le_refl _) _
  have b2 := b1.alloc (Nat.le_trans (Nat.le_refl _) b1.size) (.cells #[.int .i64 0, .int .i64 0] 25)
  have hf := FaultAt.new (w.alloc (.cells #[.string s, .int .i64 a, .int .i64 b] 33)) 0 0
  have h' := hid (h _ b2)
  have hs : (w.alloc (.cells #[.string s, .int .i64 a, .int .i64 b] 33)).heap.size = w.heap.size + 1 := by simp
  rw [hs] at hf
  clear h b1 hs
  go_enter Tryz.func9, Tryz.ntmps9
  go_wp2_with (first
    | (go_at_call 40; go_loud ((with_reducible refine h'.out.mono ?_); rintro E1 w1 ⟨r, rfl, hr, hb⟩; have hf1 := fault_step hf hb; have hb3 := b2.trans (hb.mono b2.size); have c0 := hf1.c0; have c1 := hf1.c1; have f0 := hf1.fr 0; have f1 := hf1.fr 1; clear hf b2 h')))
  refine bodyPost_ret (results_fault rfl _ _ (w.heap.size + 1) x y rfl (hf1.set2 x y)) rfl ?_
  exact ⟨r, rfl, hr, below_set2 hb3 _ _⟩
end Go.Proofs.YtfalbdlfopfgcaaGreatDoor

namespace Go.Proofs.YtfalbdlfopfgcaaGreatDoor

theorem span_d : ∀ l : List Nat, ∃ ds r, l = ds ++ r ∧ (∀ c ∈ ds, digB c = true) ∧ (∀ c, r.head? = some c → digB c = false) := by
  intro l
  induction l with
  | nil => exact ⟨[], [], rfl, fun c h => absurd h List.not_mem_nil, fun c h => by cases h⟩
  | cons c l ih =>
    cases hc : digB c
    · exact ⟨[], c :: l, rfl, fun c h => absurd h List.not_mem_nil, fun x h => by cases h; exact hc⟩
    · obtain ⟨ds, r, h1, h2, h3⟩ := ih
      refine ⟨c :: ds, r, by rw [h1]; rfl, fun x hx => ?_, h3⟩
      rcases List.mem_cons.1 hx with rfl | hx
      · exact hc
      · exact h2 x hx
theorem span_m : ∀ (m : Nat) (l : List Nat), ∃ ds r, l = ds ++ r ∧ (∀ c ∈ ds, digB c = true) ∧ ds.length ≤ m ∧ (ds.length = m ∨ ∀ c, r.head? = some c → digB c = false) := by
  intro m
  induction m with
  | zero => intro l; exact ⟨[], l, rfl, fun c h => absurd h List.not_mem_nil, Nat.le_refl _, .inl rfl⟩
  | succ m ih =>
    intro l
    cases l with
    | nil => exact ⟨[], [], rfl, fun c h => absurd h List.not_mem_nil, Nat.zero_le _, .inr fun c h => by cases h⟩
    | cons c l =>
      cases hc : digB c
      · exact ⟨[], c :: l, rfl, fun c h => absurd h List.not_mem_nil, Nat.zero_le _, .inr fun x h => by cases h; exact hc⟩
      · obtain ⟨ds, r, h1, h2, h3, h4⟩ := ih l
        refine ⟨c :: ds, r, by rw [h1]; rfl, fun x hx => ?_, by simp; omega, by simp; exact h4⟩
        rcases List.mem_cons.1 hx with rfl | hx
        · exact hc
        · exact h2 x hx
theorem digN_law : ∀ (ds r : List Nat) (m : Nat), (∀ c ∈ ds, digB c = true) → ds.length ≤ m → (ds.length = m ∨ ∀ c, r.head? = some c → digB c = false) → digN (ds ++ r) m = ds.length := by
  intro ds
  induction ds with
  | nil =>
    intro r m _ _ h
    cases m with
    | zero => cases r <;> rfl
    | succ m =>
      cases r with
      | nil => rfl
      | cons c r =>
        have := (h.resolve_left (by simp)) c rfl
        simp [digN, this]
  | cons c ds ih =>
    intro r m hc hm h
    rw [List.length_cons] at hm h
    obtain ⟨m', rfl⟩ : ∃ m', m = m' + 1 := ⟨m - 1, by omega⟩
    have h0 := hc c List.mem_cons_self
    rw [List.cons_append, digN, if_pos h0, ih r m' (fun x hx => hc x (List.mem_cons_of_mem _ hx)) (by omega) (h.imp (fun h => by omega) id), List.length_cons]
/-- The parts ahead of an exponent and a prefix. -/
structure Prt (l : List Nat) (neg : Bool) (d1 : List Nat) (pt : Bool) (d2 rest : List Nat) : Prop where
  e : l = (if neg then [45] else []) ++ bdy d1 pt d2 ++ rest
  h1 : ∀ c ∈ d1, digB c = true
  h2 : ∀ c ∈ d2, digB c = true
  hp : pt = false → d2 = []
  hr : ∀ c, rest.head? = some c → digB c = false
  hq : pt = false → rest.head? ≠ some 46
  hn : neg = false → d1 = [] → pt = false → rest.head? ≠ some 45
theorem prt_ex (l : List Nat) : ∃ neg d1 pt d2 rest, Prt l neg d1 pt d2 rest := by
  obtain ⟨neg, l1, e1, hn1⟩ : ∃ neg l1, l = (if neg = true then [45] else []) ++ l1 ∧ (neg = false → l1.head? ≠ some 45) := by
    cases l with
    | nil => exact ⟨false, [], rfl, fun _ => by simp⟩
    | cons c l =>
      by_cases h : c = 45
      · exact ⟨true, l, by rw [h]; rfl, fun h => by cases h⟩
      · exact ⟨false, c :: l, rfl, fun _ => by simpa using h⟩
  obtain ⟨d1, l2, e2, h1, hr1⟩ := span_d l1
  by_cases hp : l2.head? = some 46
  · obtain ⟨l3, rfl⟩ : ∃ l3, l2 = 46 :: l3 := by
      cases l2 with
      | nil => cases hp
      | cons c l3 => exact ⟨l3, by rw [show c = 46 by simpa using hp]⟩
    obtain ⟨d2, rest, e3, h2, hr2⟩ := span_d l3
    refine ⟨neg, d1, true, d2, rest, ?_, h1, h2, fun h => (by cases h), hr2, fun h => (by cases h), fun _ _ h => (by cases h)⟩
    rw [e1, e2, e3]
    unfold bdy
    simp
  · refine ⟨neg, d1, false, [], l2, ?_, h1, fun c h => absurd h List.not_mem_nil, fun _ => rfl, hr1, fun _ => hp, fun h hd _ => ?_⟩
    · rw [e1, e2]
      unfold bdy
      simp
    · have := hn1 h
      rw [e2, hd] at this
      exact this
def exSt (neg : Bool) (d1 : List Nat) (pt : Bool) (d2 : List Nat) : Nat := if pt = true then (if d2 = [] then (if d1 = [] then 3 else 4) else 5) else (if d1 = [] then (if neg = true then 1 else 0) else 2)
theorem run_prt {l : List Nat} {neg : Bool} {d1 : List Nat} {pt : Bool} {d2 rest : List Nat} (h : Prt l neg d1 pt d2 rest) :
    exRun exS0 0 l = exRun ⟨exSt neg d1 pt d2, 0, dgv (d1 ++ d2), d2.length, 0, neg, false, 0⟩ ((if neg = true then 1 else 0) + (bdy d1 pt d2).length) rest := by
  obtain ⟨e, h1, h2, hp, -, -, -⟩ := h
  have s1 : exRun exS0 0 (if neg = true then [45] else []) = .inr ⟨if neg = true then 1 else 0, 0, 0, 0, 0, neg, false, 0⟩ := by cases neg <;> rfl
  have hl : (if neg = true then [45] else ([] : List Nat)).length = if neg = true then 1 else 0 := by cases neg <;> rfl
  rw [e, List.append_assoc, exRun_app, s1]
  simp only
  rw [hl, Nat.zero_add, exRun_app]
  have s2 : exRun ⟨if neg = true then 1 else 0, 0, 0, 0, 0, neg, false, 0⟩ (if neg = true then 1 else 0) (bdy d1 pt d2) = .inr ⟨exSt neg d1 pt d2, 0, dgv (d1 ++ d2), d2.length, 0, neg, false, 0⟩ := by
    unfold bdy exSt
    rw [exRun_app, run_d1 d1 _ _ h1 (by cases neg <;> simp)]
    simp only [Nat.zero_mul, Nat.zero_add]
    cases pt
    · obtain rfl := hp rfl
      simp [exRun]
    · simp only [if_true]
      rw [exRun_one _ (by
        by_cases hd : d1 = []
        · cases neg <;> simp [hd, stepB]
        · simp [hd, stepB])]
      have hv : stepV (if d1 = [] then (if neg = true then 1 else 0) else 2) 0 46 = if d1 = [] then 3 else 4 := by
        by_cases hd : d1 = []
        · cases neg <;> simp [hd, stepV, digB]
        · simp [hd, stepV, digB]
      rw [hv]
      have hx : exNext ⟨if d1 = [] then (if neg = true then 1 else 0) else 2, 0, dgv d1, 0, 0, neg, false, 0⟩ 46 (if d1 = [] then 3 else 4) = ⟨if d1 = [] then 3 else 4, 0, dgv d1, 0, 0, neg, false, 0⟩ := by
        by_cases hd : d1 = [] <;> simp [hd, exNext]
      rw [hx, run_d2 d2 _ _ h2 (by by_cases hd : d1 = [] <;> simp [hd]), dgv_app]
      simp
  rw [s2]
/-- The last parts: a prefix, and nothing behind it. -/
def qtail (r : List Nat) (i : Nat) (ex : Int) : Int × Option Nat := match r with
  | [] => (ex, none)
  | c :: r4 => match pfxK c with
    | some k => if r4 = [] then (ex + k, none) else (0, some (i + 1))
    | none => (0, some i)
theorem run_tail {S : ExS} {r : List Nat} (i : Nat) (hs : S.st = 2 ∨ S.st = 4 ∨ S.st = 5 ∨ S.st = 8 ∨ S.st = 9) (h0 : S.st ≠ 9 → ∀ c, r.head? = some c → digB c = false) (h1 : S.st = 2 → r.head? ≠ some 46) (h2 : S.st ≤ 5 → r.head? ≠ some 101 ∧ r.head? ≠ some 69) (hpre : S.pre = 0) (ex : Int) :
    (∃ j, (qtail r i ex).2 = some j ∧ exRun S i r = .inl j) ∨ ((qtail r i ex).2 = none ∧ ∃ S', exRun S i r = .inr S' ∧ (S'.st = 2 ∨ S'.st = 4 ∨ S'.st = 5 ∨ S'.st = 8 ∨ S'.st = 9 ∨ S'.st = 10) ∧ S'.dg = S.dg ∧ S'.pl = S.pl ∧ S'.ex = S.ex ∧ S'.neg = S.neg ∧ S'.nx = S.nx ∧ (qtail r i ex).1 = ex + S'.pre) := by
  cases r with
  | nil =>
    right
    refine ⟨rfl, S, rfl, ?_, rfl, rfl, rfl, rfl, rfl, ?_⟩
    · rcases hs with h | h | h | h | h <;> simp [h]
    · rw [hpre]; simp [qtail]
  | cons c r4 =>
    have hd : S.st ≠ 9 → digB c = false := fun h => h0 h c rfl
    have hb : stepB S.st c = (pfxK c).isSome := by
      unfold stepB
      rcases hs with h | h | h | h | h
      · have := hd (by omega)
        have h46 := h1 h
        have he := h2 (by omega)
        simp at h46 he
        rw [h]
        simp [this, h46, he.1, he.2]
      · have := hd (by omega)
        have he := h2 (by omega)
        simp at he
        rw [h]
        simp [this, he.1, he.2]
      · have := hd (by omega)
        have he := h2 (by omega)
        simp at he
        rw [h]
        simp [this, he.1, he.2]
      · have := hd (by omega)
        rw [h]
        simp [this]
      · rw [h]
        simp
    cases hk : pfxK c with
    | none =>
      left
      rw [hk] at hb
      exact ⟨i, by simp [qtail, hk], exRun_bad _ hb⟩
    | some k =>
      rw [hk] at hb
      have hv : stepV S.st S.n c = 10 := by
        unfold stepV
        rcases hs with h | h | h | h | h
        · have := hd (by omega)
          have h46 := h1 h
          have he := h2 (by omega)
          simp at h46 he
          rw [h]
          simp [this, h46, he.1, he.2]
        · have := hd (by omega)
          have he := h2 (by omega)
          simp at he
          rw [h]
          simp [this, he.1, he.2]
        · have := hd (by omega)
          have he := h2 (by omega)
          simp at he
          rw [h]
          simp [this, he.1, he.2]
        · have := hd (by omega)
          rw [h]
          simp [this]
        · rw [h]
          simp
      rw [exRun_one _ hb, hv]
      have hx : exNext S c 10 = { S with pre := k, st := 10 } := by simp [exNext, hk]
      rw [hx]
      cases r4 with
      | nil =>
        right
        refine ⟨by simp [qtail, hk], _, rfl, by simp, rfl, rfl, rfl, rfl, rfl, by simp [qtail, hk]⟩
      | cons x r5 =>
        left
        refine ⟨i + 1, by simp [qtail, hk], exRun_bad _ (by simp [stepB])⟩
end Go.Proofs.YtfalbdlfopfgcaaGreatDoor
