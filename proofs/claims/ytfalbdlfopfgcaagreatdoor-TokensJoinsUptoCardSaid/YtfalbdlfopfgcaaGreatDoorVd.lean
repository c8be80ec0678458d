/- quantity.Parse at any word. Conditions: the tables lie there. -/
import Derived.Test.YtfalbdlfopfgcaaGreatDoorVc
import Derived.Test.YtfalbdlfopfgcaaGreatDoorTabsM
import Derived.Test.YtfalbdlfopfgcaaGreatDoorPartsM
import Derived.Test.YtfalbdlfopfgcaaGreatDoorWo
import Derived.Lib.ItoaMem
namespace Go.Proofs.YtfalbdlfopfgcaaGreatDoor
open Go.RowKit

/-! ### What Itoa writes, read -/
theorem dec_byte {u : Nat} (h : u < 10) : (UInt8.ofNat (48 + u)).toNat = 48 + u := by
  rw [UInt8.toNat_ofNat']
  omega
theorem ex_one (a b : Nat) (e : Int) (h : e = (a : Int)) (h2 : a < 10000) : exStep e (48 + b) = ((10 * a + b : Nat) : Int) := by
  subst h
  unfold exStep
  rw [if_pos (by omega)]
  omega
theorem dec_one (u : Nat) (h : u < 10) : exV (List.map (·.toNat) [UInt8.ofNat (48 + u)]) = (u : Int) := by
  rw [List.map_cons, List.map_nil, dec_byte h]
  have := ex_one 0 u 0 rfl (Nat.lt_of_le_of_lt (Nat.zero_le u) (Nat.lt_of_lt_of_le h (Nat.le_of_ble_eq_true rfl)))
  rw [Nat.mul_zero, Nat.zero_add] at this
  exact this
theorem dec_more (u : Nat) (l : List Nat) (h : exV l = ((u / 10 : Nat) : Int)) (hu : u / 10 < 10000) : exV (l ++ List.map (·.toNat) [UInt8.ofNat (48 + u % 10)]) = (u : Int) := by
  rw [List.map_cons, List.map_nil, dec_byte (Nat.mod_lt u (Nat.succ_pos 9))]
  unfold exV at h ⊢
  rw [List.foldl_append, h, List.foldl_cons, List.foldl_nil]
  have := ex_one (u / 10) (u % 10) _ rfl hu
  rw [Nat.div_add_mod] at this
  exact this
theorem dec_ex (N : Nat) (hN : N ≤ 10000) (u : Nat) : u / 10 < N → exV ((Lib.decDigits u).map (·.toNat)) = (u : Int) := by
  induction u using Nat.strongRecOn with
  | _ u ih =>
    intro hu
    by_cases h : u < 10
    · rw [Lib.decDigits, dif_pos h]
      exact dec_one u h
    · rw [Lib.decDigits, dif_neg h, List.map_append]
      exact dec_more u _ (ih (u / 10) (by omega) (Nat.lt_of_le_of_lt (Nat.div_le_self _ _) hu)) (Nat.lt_of_lt_of_le hu hN)
theorem dec_dig (u : Nat) : ∀ c ∈ (Lib.decDigits u).map (·.toNat), digB c = true := by
  induction u using Nat.strongRecOn with
  | _ u ih =>
    intro c hc
    by_cases h : u < 10
    · rw [Lib.decDigits, dif_pos h] at hc
      simp only [List.map_cons, List.map_nil, dec_byte h, List.mem_singleton] at hc
      subst hc
      unfold digB
      simp
      omega
    · rw [Lib.decDigits, dif_neg h, List.map_append, List.mem_append] at hc
      rcases hc with hc | hc
      · exact ih (u / 10) (by omega) c hc
      · simp only [List.map_cons, List.map_nil, dec_byte (Nat.mod_lt u (by decide : 0 < 10)), List.mem_singleton] at hc
        subst hc
        unfold digB
        simp
        omega
theorem dec_len : ∀ (k u : Nat), u < 10 ^ (k + 1) → (Lib.decDigits u).length ≤ k + 1 := by
  intro k
  induction k with
  | zero => intro u hu; rw [Lib.decDigits, dif_pos (by simpa using hu)]; simp
  | succ k ih =>
    intro u hu
    rw [Lib.decDigits]
    split
    · simp
    · rw [List.length_append]
      have := ih (u / 10) (by rw [Nat.pow_succ] at hu; omega)
      simp
      omega
theorem dec_ne (u : Nat) : (Lib.decDigits u).map (·.toNat) ≠ [] := by
  rw [Lib.decDigits]
  split <;> simp
/-- Itoa's bytes: a sign, digits; as an exponent they tell the number. -/
theorem itoa_parts (x : Int) (h1 : -10020 ≤ x) (h2 : x ≤ 10020) : ∃ sg ds, (Lib.itoa x).map (·.toNat) = sg ++ ds ∧ (sg = [] ∨ sg = [45]) ∧ ds ≠ [] ∧ (∀ c ∈ ds, digB c = true) ∧ (if sg = [] then exV ds else -exV ds) = x ∧ (Lib.itoa x).length ≤ 6 := by
  unfold Lib.itoa
  by_cases h : x < 0
  · rw [if_pos h]
    refine ⟨[45], (Lib.decDigits x.natAbs).map (·.toNat), rfl, .inr rfl, dec_ne _, dec_dig _, ?_, ?_⟩
    · rw [if_neg (by simp), dec_ex 10000 (Nat.le_refl _) _ (by omega)]
      omega
    · have := dec_len 4 x.natAbs (by omega)
      rw [List.length_cons]
      omega
  · rw [if_neg h]
    refine ⟨[], (Lib.decDigits x.toNat).map (·.toNat), rfl, .inl rfl, dec_ne _, dec_dig _, ?_, ?_⟩
    · rw [if_pos rfl, dec_ex 10000 (Nat.le_refl _) _ (by omega)]
      omega
    · have := dec_len 4 x.toNat (by omega)
      omega
/-! ### The number of a word -/
/-- A sign, a whole number and a power of ten: the word, or the fault. -/
def numV (neg : Bool) (dg : Nat) (k : Int) : Option Nat × Int × Int := if 9218868437227405312 ≤ nearW (tenP dg k) (tenQ k) then (some 0, 6, -1) else (val (sgn neg + nearW (tenP dg k) (tenQ k)), 0, 0)
def numR (l : List Nat) : Option Nat × Int × Int :=
  if 64 < l.length then (some 0, 3, -1) else
  match exRun exS0 0 l with
  | .inl j => (some 0, 150, (j : Int))
  | .inr S => if S.st = 0 ∨ S.st = 1 ∨ S.st = 3 ∨ S.st = 6 ∨ S.st = 7 then (some 0, 150, (l.length : Int)) else numV S.neg S.dg ((if S.nx = true then -(S.ex : Int) else S.ex) + S.pre - S.pl)
theorem num_bad {l : List Nat} {j : Nat} (hl : l.length ≤ 64) (h : QBad l j) : numR l = (some 0, 150, (j : Int)) := by
  unfold numR
  rw [if_neg (by omega)]
  rcases h with h | ⟨S, h, hs, rfl⟩
  · rw [h]
  · rw [h]
    exact if_pos hs
theorem tenQ_ne (k : Int) : tenQ k ≠ 0 := by
  unfold tenQ
  split
  · exact Nat.ne_of_gt (Nat.pow_pos (by decide))
  · decide
theorem ten_frac (d : Nat) (k : Int) : d * 10 ^ k.toNat * tenQ k = tenP d k * 10 ^ (-k).toNat := by
  unfold tenP tenQ
  by_cases h : k < 0
  · rw [if_pos h, if_pos h, show k.toNat = 0 by omega, Nat.pow_zero, Nat.mul_one]
  · rw [if_neg h, if_neg h, show (-k).toNat = 0 by omega, Nat.pow_zero]
theorem near_le (p : Nat) {q : Nat} (hq : q ≠ 0) : nearW p q ≤ 9218868437227405312 := (nearW_near p hq).le
theorem inf_word (neg : Bool) {r : Nat} (h : r ≤ 9218868437227405312) : isInf (val (sgn neg + r)) = decide (9218868437227405312 ≤ r) := by
  have hm : (sgn neg + r) % 9223372036854775808 = r := by
    unfold sgn
    cases neg
    · simp only [if_neg Bool.false_ne_true]; omega
    · simp only [if_true]; omega
  have hn : nanB (sgn neg + r) = false := by
    unfold nanB
    rw [hm]
    exact decide_eq_false (by omega)
  have hn2 : nanB r = false := by
    unfold nanB
    rw [Nat.mod_eq_of_lt (by omega)]
    exact decide_eq_false (by omega)
  unfold isInf
  rw [val_some hn]
  show flt (val 9218868437227405311) (some (sizeB (sgn neg + r))) = _
  unfold sizeB
  rw [hm, val_some (by decide), flt_key (by unfold IsW; omega) (by unfold IsW; omega) (by decide) hn2]
  unfold key
  rw [if_pos (by omega), if_pos (by omega)]
  exact decide_eq_decide.2 (by omega)
theorem bys_cat (s t : ByteArray) : bys (s ++ t) = bys s ++ bys t := by
  unfold bys
  rw [ByteArray.data_append, Array.toList_append, List.map_append]
/-- ParseFloat at the text that Parse writes. -/
theorem text_float (s : ByteArray) (en : Nat) (ex : Int) (hs : s.size ≤ 64) (h : QGood (bys s) en ex) (ev : Value) (hev : ev = .nilIface ∨ ∃ te pe, ev = .iface te pe) :
    ∃ neg r, r ≤ 9218868437227405312 ∧ (numR (bys s) = if 9218868437227405312 ≤ r then (some 0, 6, -1) else (val (sgn neg + r), 0, 0)) ∧ -10020 ≤ ex ∧ ex ≤ 10020 ∧
      ∀ w, Tabs w → STabW w → w.cell? ⟨3, 0, none⟩ = some ev → Calls Tryz.prog 68 #[.string (s.extract 0 en ++ ByteArray.mk #[101] ++ ByteArray.mk (Lib.itoa ex).toArray), .int .i64 64] w (RetPg w (val (sgn neg + r))) := by
  obtain ⟨neg, d1, pt, d2, rest, S, hP, hne, hen, hrun, hst, hdg, hpl, hneg, hex, x1, x2⟩ := h
  obtain ⟨sg, ds, i1, i2, i3, i4, i5, i6⟩ := itoa_parts ex x1 x2
  obtain ⟨p1, p2⟩ := prt_len hP
  rw [bys_len] at p1
  have hk : (if S.nx = true then -(S.ex : Int) else S.ex) + S.pre - S.pl = ex - (d2.length : Int) := by rw [← hex, hpl]
  refine ⟨neg, nearW (tenP (dgv (d1 ++ d2)) (ex - (d2.length : Int))) (tenQ (ex - (d2.length : Int))), near_le _ (tenQ_ne _), ?_, x1, x2, fun w hT hT2 hc => ?_⟩
  · unfold numR
    rw [if_neg (by rw [bys_len]; omega), hrun]
    show (if _ then _ else _) = _
    rw [if_neg hst, hk, hdg, hneg]
    rfl
  · have hdl : (d1 ++ d2).length ≤ 64 := by
      rw [List.length_append]
      have hpp := hP.hp
      cases pt
      · rw [hpp rfl, List.length_nil]
        simp at p2
        omega
      · simp at p2
        omega
    have hb : bys (s.extract 0 en ++ ByteArray.mk #[101] ++ ByteArray.mk (Lib.itoa ex).toArray) = (if neg then [45] else []) ++ bdy d1 pt d2 ++ [101] ++ sg ++ ds := by
      rw [bys_cat, bys_cat, bys_ext, List.drop_zero, hP.e, hen]
      have e1 : bys (ByteArray.mk (Lib.itoa ex).toArray) = sg ++ ds := by
        rw [← i1]
        unfold bys
        simp
      rw [e1, show (if neg = true then 1 else 0) + (bdy d1 pt d2).length = ((if neg = true then [45] else []) ++ bdy d1 pt d2).length by rw [List.length_append]; cases neg <;> rfl, List.take_left]
      simp only [List.append_assoc]
      rfl
    have hsz : (s.extract 0 en ++ ByteArray.mk #[101] ++ ByteArray.mk (Lib.itoa ex).toArray).size ≤ 200 := by
      rw [← bys_len, bys_cat, bys_cat, bys_ext, List.drop_zero, List.length_append, List.length_append, List.length_take]
      rw [bys_len, bys_len, bys_len]
      have e1 : (ByteArray.mk (Lib.itoa ex).toArray).size = (Lib.itoa ex).length := List.size_toArray
      have e2 : (ByteArray.mk #[101]).size = 1 := rfl
      omega
    exact ParseFloat_gen _ _ (nearW (tenP (dgv (d1 ++ d2)) (ex - (d2.length : Int))) (tenQ (ex - (d2.length : Int)))) ev w hsz hc hev
      (atof_gen _ neg pt d1 d2 sg ds (ex - (d2.length : Int)) _ _ hb hP.h1 hP.h2 hP.hp hne hdl i4 i3 i2 hsz (by rw [i5]) (tenQ_ne _) (ten_frac _ _) w hT hT2)
theorem tabIs_below {P : Program} {n : String} {k : IntKind} {zs : List Int} {w0 w : World} (h : Lib.TabIs P w0 n k zs) (hb : Below w0.heap.size w0 w) : Lib.TabIs P w n k zs := by
  unfold Lib.TabIs World.var? at *
  cases hg : P.globalNamed n with
  | none => simp [hg] at h
  | some g =>
    simp only [hg, Option.bind_some] at h ⊢
    by_cases hl : g < w0.heap.size
    · rw [hb.block g hl]
      exact h
    · rw [Array.getElem?_eq_none (by omega)] at h
      simp at h
/-- All that Parse reads in the world. -/
structure TabsP (w : World) : Prop where
  t : Tabs w
  s : STabW w
  i : I10 w
  e : ∃ ev, w.cell? ⟨3, 0, none⟩ = some ev ∧ (ev = .nilIface ∨ ∃ te pe, ev = .iface te pe)
theorem TabsP.below {w w' : World} (h : TabsP w) (hb : Below w.heap.size w w') : TabsP w' := by
  obtain ⟨ev, h1, h2⟩ := h.e
  exact ⟨h.t.below hb, h.s.below hb, tabIs_below h.i hb, ev, (hb.cell (World.block_lt_of_cell? _ _ h1)).trans h1, h2⟩
theorem isInf2 (x : Nat) (w : World) : Calls Tryz.prog 70 #[.float .f64 x, .int .i64 0] w fun e w' => e = .returned (.bool (isInf (val x))) ∧ w' = w :=
  (isInf_any x w).mono fun _ _ h => ⟨h.1, h.2.symm⟩
set_option maxRecDepth 100000 in
set_option maxHeartbeats 4000000 in
theorem Parse_any (s : ByteArray) (w : World) (hT : TabsP w) : Calls Tryz.prog 40 #[.string s] w (RetNum w (numR (bys s)).1 (numR (bys s)).2.1 (numR (bys s)).2.2) := by
  have hb0 : Below w.heap.size w (w.alloc (.cells #[.int .i64 0, .int .i64 0] 25)) := (Below.refl _ w).alloc (Nat.le_refl _) _
  by_cases h64 : 64 < s.size
  · have hn : numR (bys s) = (some 0, 3, -1) := by
      unfold numR
      rw [if_pos (by rw [bys_len]; exact h64)]
    rw [hn]
    have e1 : (64 : Int) < (s.size : Int) := by omega
    clear hn h64
    go_enter Tryz.func40, Tryz.ntmps40
    go_wp2
    refine bodyPost_ret (results_fault rfl _ _ w.heap.size 3 (-1) rfl (FaultAt.new _ _ _)) rfl ?_
    exact ⟨0, rfl, by decide +kernel, (Below.refl _ w).alloc (Nat.le_refl _) _⟩
  · have hs : s.size ≤ 64 := by omega
    have e0 : ¬ (64 : Int) < (s.size : Int) := by omega
    have HC := hid fun w => qcut_any s hs w
    have HT := hid hT
    have hs' := hid hs
    have hf0 := FaultAt.new w 0 0
    clear hT
    go_enter Tryz.func40, Tryz.ntmps40
    go_upto_region 4 with (first
      | (go_at_call 67; (with_reducible refine (HC.out _).mono ?_); rintro E1 w1 ⟨en, ex, at_, rfl, hO, hbc⟩))
    have hf1 := fault_step hf0 hbc
    have hb1 := hb0.trans (hbc.mono hb0.size)
    have HT1 := hid (HT.out.below hb1)
    clear hf0 hb0 hbc HC HT
    rcases hO with ⟨j, rfl, rfl, rfl, hbad⟩ | ⟨rfl, hgood⟩
    · have hn := hid (num_bad (by rw [bys_len]; exact hs) hbad)
      have e1 : (0 : Int) ≤ (j : Int) := by omega
      have c0 := hf1.c0
      have c1 := hf1.c1
      have f0 := hf1.fr 0
      have f1 := hf1.fr 1
      clear hbad HT1 hs e0
      go_wp2
      refine bodyPost_ret (results_fault rfl _ _ w.heap.size 150 j rfl (hf1.set2 150 j)) rfl ?_
      rw [hn.out]
      exact ⟨0, rfl, show val 0 = some 0 by decide +kernel, below_set2 hb1 _ _⟩
    · obtain ⟨ev, hc3, hev⟩ := HT1.out.e
      obtain ⟨neg, r, hr, hn, x1, x2, hpf⟩ := text_float s en ex hs hgood ev hev
      have hen : en ≤ s.size := by
        obtain ⟨neg, d1, pt, d2, rest, S, hP, -, hen, -⟩ := hgood
        have := (prt_len hP).1
        rw [bys_len] at this
        omega
      have hil : (Lib.itoa ex).length ≤ 6 := by
        obtain ⟨_, _, _, _, _, _, _, h⟩ := itoa_parts ex x1 x2
        exact h
      have HIt : Hid (∀ w0, I10 w0 → Calls Tryz.prog 69 #[.int .i64 ex] w0 fun e w' => e = .returned (.string ⟨(Lib.itoa ex).toArray⟩) ∧ Below w0.heap.size w0 w') := hid fun w0 hI => (Tryz.strconv_Itoa ex (by omega) (by omega) w0 hI).mono (by
        rintro e w1 ⟨rfl, kk, os, rfl⟩
        exact ⟨rfl, rfl, rfl, rfl, by simp [Sort.grow, World.drewN], fun j hj => by simp [Sort.grow, World.drewN, Array.getElem?_append, hj]⟩)
      have hd1 : Below w1.heap.size w1 w1.drew := ⟨rfl, rfl, rfl, Nat.le_refl _, fun _ _ => rfl⟩
      have HI1 : Hid (I10 w1.drew) := hid (HT1.out.below hd1).i
      have HPF : Hid (∀ w2, Below w1.drew.heap.size w1.drew w2 → Calls Tryz.prog 68 #[.string (s.extract 0 en ++ ByteArray.mk #[101] ++ ByteArray.mk (Lib.itoa ex).toArray), .int .i64 64] w2 (RetPg w2 (val (sgn neg + r)))) := hid fun w2 h2 => by
        have hb := hd1.trans h2
        have := HT1.out.below hb
        exact hpf w2 this.t this.s ((hb.cell (World.block_lt_of_cell? _ _ hc3)).trans hc3)
      have HInf := hid fun x w => isInf2 x w
      have hn' := hid hn
      have hen' : (en : Int) ≤ (s.size : Int) := by omega
      have hr' := hid hr
      clear hn hpf hc3 hev hgood x1 x2 hd1 HT1
      go_upto_region 6 with (fail)
      go_region_with (first
        | (go_at_call 69; (with_reducible refine (HIt.out _ HI1.out).mono ?_); rintro E1 w9 ⟨rfl, hb9⟩)
        | (go_at_call 68; (with_reducible refine (HPF.out _ hb9).mono ?_); rintro E2 w2 ⟨x, g, rfl, hx, hb2⟩))
      all_goals
        have hd1 : Below w1.heap.size w1 w1.drew := ⟨rfl, rfl, rfl, Nat.le_refl _, fun _ _ => rfl⟩
        have hb12 : Below w1.heap.size w1 w2 := hd1.trans (hb9.trans (hb2.mono hb9.size))
        have hf2 := fault_step hf1 hb12
        have hb3 := hb1.trans (hb12.mono hb1.size)
        have hi := (congrArg isInf hx).trans (inf_word neg hr'.out)
        have hx' := hid hx
        have c0 := hf2.c0
        have c1 := hf2.c1
        have f0 := hf2.fr 0
        have f1 := hf2.fr 1
        clear hf1 hb12 hb2 hb9 hd1 hb1 hr hx hs e0 hen hen' hil
        by_cases hbig : 9218868437227405312 ≤ r
        · have hn2 := hid (hn'.out.trans (if_pos hbig))
          rw [decide_eq_true hbig] at hi
          have HI2 : Hid (∀ w, Calls Tryz.prog 70 #[.float .f64 x, .int .i64 0] w fun e w' => e = .returned (.bool true) ∧ w' = w) := hid fun w => by have := HInf.out x w; rw [hi] at this; exact this
          clear hi hbig
          go_wp2_with (go_at_call 70; (with_reducible refine (HI2.out _).mono ?_); rintro E1 w1 ⟨rfl, rfl⟩)
          refine bodyPost_ret (results_fault rfl _ _ w.heap.size 6 (-1) rfl (hf2.set2 6 (-1))) rfl ?_
          rw [hn2.out]
          exact ⟨0, rfl, by decide +kernel, below_set2 hb3 _ _⟩
        · have hn2 := hid (hn'.out.trans (if_neg hbig))
          rw [decide_eq_false hbig] at hi
          have HI2 : Hid (∀ w, Calls Tryz.prog 70 #[.float .f64 x, .int .i64 0] w fun e w' => e = .returned (.bool false) ∧ w' = w) := hid fun w => by have := HInf.out x w; rw [hi] at this; exact this
          clear hi hbig
          go_wp2_with (go_at_call 70; (with_reducible refine (HI2.out _).mono ?_); rintro E1 w1 ⟨rfl, rfl⟩)
          refine bodyPost_ret (results_fault rfl _ _ w.heap.size 0 0 rfl (hf2.set2 0 0)) rfl ?_
          rw [hn2.out]
          exact ⟨x, rfl, hx'.out, below_set2 hb3 _ _⟩
end Go.Proofs.YtfalbdlfopfgcaaGreatDoor

