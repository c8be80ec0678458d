/- The kit's functions on lists of numbers: out of bits, held against each other. Conditions: words have 64 bits. The kit's functions on lists of numbers that are lent: copied, marks behind; are they kept? Conditions: lengths as the reach has them. -/
import Derived.Test.YtfnbohpfcdddgaaPol1M
import Derived.Deep.RegionHeld3
import Derived.Deep.QuietTactic
import Derived.BigQuiet
namespace Go.Proofs.Ytfnbohpfcdddgaa
open Go.RowKit

theorem feq_self (a : Nat) : feq (val a) (val a) = !nanB a := by
  cases h : nanB a
  · rw [val_some h]
    have : Ieee.double.order a a = some .eq := by
      rw [← read_nan] at h
      unfold Ieee.Format.order
      cases hr : Ieee.double.read a <;> rw [hr] at h <;> simp [Ieee.Datum.isNaN] at h <;> simp [Ieee.Datum.order]
    simp [feq, ford, this]
  · rw [val_none h]; rfl

theorem val_eq_iff {a b : Nat} : val a = val b ↔ (a = b ∨ nanB a = true ∧ nanB b = true) := by
  unfold val
  cases ha : nanB a <;> cases hb : nanB b <;> simp
  · intro e; subst e; rw [ha] at hb; cases hb
  · intro e; subst e; rw [ha] at hb; cases hb
/-- Are two values the same? -/
def same (x y : Option Nat) : Bool := decide (x = y)
def csame (x y : CV) : Bool := same x.1 y.1 && same x.2 y.2
theorem same_val (a b : Nat) : same (val a) (val b) = ((a : Int) == (b : Int) || (nanB a && nanB b)) := by
  unfold same
  rw [Bool.eq_iff_iff, decide_eq_true_eq, val_eq_iff]
  simp only [Bool.or_eq_true, beq_iff_eq, Bool.and_eq_true]
  constructor
  · rintro (h | h)
    · exact .inl (by omega)
    · exact .inr h
  · rintro (h | h)
    · exact .inl (by omega)
    · exact .inr h

theorem kSameReal_any (a b : Nat) (w : World) :
    Calls Try.prog 43 #[.float .f64 a, .float .f64 b] w fun e w' => e = .returned (.bool (same (val a) (val b))) ∧ w = w' := by
  have ha := feq_self a
  have hb := feq_self b
  rw [same_val]
  cases h0 : ((a : Int) == (b : Int)) <;> cases h1 : nanB a <;> cases h2 : nanB b
  all_goals
    rw [h1] at ha
    rw [h2] at hb
    go_enter Try.func43, Try.ntmps43
    go_wp2
    go_ret
    exact ⟨by simp, rfl⟩
theorem csame_iff (x y : CV) : csame x y = decide (x = y) := by
  unfold csame same
  obtain ⟨a, b⟩ := x
  obtain ⟨c, d⟩ := y
  by_cases h1 : a = c <;> by_cases h2 : b = d <;> simp [h1, h2]
theorem kSame_any (a b c d : Nat) (w : World) :
    Calls Try.prog 42 #[.complex .f64 a b, .complex .f64 c d] w fun e w' => e = .returned (.bool (csame (cv a b) (cv c d))) ∧ w = w' := by
  unfold csame cv
  cases h0 : same (val a) (val c)
  all_goals
    go_enter Try.func42, Try.ntmps42
    go_wp2_with (first | (go_at_call 43; refine (kSameReal_any _ _ _).mono ?_; rintro e w' ⟨rfl, rfl⟩))
    go_ret
    exact ⟨by simp, rfl⟩

set_option maxHeartbeats 1000000 in
theorem Number_any (a b : Nat) (w : World) :
    Calls Try.prog 32 #[.agg #[.int .u64 a, .int .u64 b]] w fun e w' => e = .returned (.complex .f64 a b) ∧ Below w.heap.size w w' := by
  go_enter Try.func32, Try.ntmps32
  go_wp2
  go_quiet (fail)
  go_wp2
  go_ret
  exact ⟨rfl, below_drewN' ((Below.refl _ _).alloc (Nat.le_refl _) _) _⟩

def wfL (l : List Z) : Prop := ∀ z ∈ l, IsW z.1 ∧ IsW z.2
theorem wfL.wfP {l : List Z} (h : wfL l) : wfP l := fun _ z hz => h z (List.mem_of_getElem? hz)
/-- A slice of bits reads as l. -/
def NsAt (w : World) (v : Value) (l : List Z) : Prop := ∃ a cap, v = .slice a l.length cap ∧ ∀ (k : Nat) (z : Z), l[k]? = some z → ∃ b off, a = some ⟨b, off, none⟩ ∧ w.cell? ⟨b, off + k * 2, none⟩ = some (.int .u64 z.1) ∧ w.cell? ⟨b, off + k * 2 + 1, none⟩ = some (.int .u64 z.2)
theorem NsAt.below {w w' : World} {v : Value} {l : List Z} (h : NsAt w v l) (hb : Below w.heap.size w w') : NsAt w' v l := by
  obtain ⟨a, cap, rfl, hr⟩ := h
  refine ⟨a, cap, rfl, fun k z hz => ?_⟩
  obtain ⟨b, off, rfl, h1, h2⟩ := hr k z hz
  exact ⟨b, off, rfl, by rw [hb.cell (World.block_lt_of_cell? _ _ h1)]; exact h1, by rw [hb.cell (World.block_lt_of_cell? _ _ h2)]; exact h2⟩
def RetL (w : World) (e0 : Nat) (xs : List Value) (e : Ending) (w' : World) : Prop := ∃ v, e = .returned v ∧ w'.ownsRow w.heap.size e0 1 v xs.length xs ∧ Below w.heap.size w w'
theorem take_snoc {α : Type} {l : List α} {k : Nat} {x : α} (h : l[k]? = some x) : l.take (k + 1) = l.take k ++ [x] := by
  rw [List.take_add_one, h]
  rfl
def NumLoop (w : World) (l : List Z) (i v : Value) (wr : World) : Prop := ∃ k : Nat, k ≤ l.length ∧ i = .int .i64 k ∧ wr.ownsRow w.heap.size 63 1 v k ((l.take k).map C) ∧ Below w.heap.size w wr
set_option maxRecDepth 100000 in
set_option maxHeartbeats 1000000 in
theorem Numbers_any (l : List Z) (v0 : Value) (w : World) (hn : l.length * 16 ≤ 140737488351232) (hs : NsAt w v0 l) :
    Calls Try.prog 9 #[v0] w (RetL w 63 (l.map C)) := by
  have hs2 := hs
  obtain ⟨a, cap, rfl, -⟩ := hs2
  go_enter Try.func9, Try.ntmps9
  go_wp2
  go_loopw [4, 3] (fun i v w' => NumLoop w l i v w') (fun i _ _ => l.length + 1 - (intOf i).toNat)
  case atStart => exact ⟨0, Nat.zero_le _, rfl, World.ownsRow_nil _ _ _ _, Below.refl _ _⟩
  case round =>
    obtain ⟨k, hk, rfl, hown, hb⟩ := hrel
    by_cases hlt : k < l.length
    · have hz := hb.size
      obtain ⟨⟨x, y⟩, hx⟩ : ∃ x, l[k]? = some x := ⟨_, List.getElem?_eq_getElem hlt⟩
      obtain ⟨a', cap', e1, hr⟩ := hs.below hb
      cases e1
      obtain ⟨b, off, rfl, c0, c1⟩ := hr k _ hx
      have HX := hid hx
      clear hr hx
      go_wp2_with (first | (go_at_call 32; (with_reducible refine (Number_any _ _ _).mono ?_); rintro E1 w1 ⟨rfl, hb1⟩; have hb2 := hb.trans (hb1.mono hz); replace hown := owns_below hown hb1; have hz1 := hb2.size; clear hb1) | (at_builtin; refine wpList_app1 rfl _ _ 41 rfl w.heap.size 63 _ 16 Try.underlying41 info_c rfl _ k _ (.complex .f64 x y) rfl rfl rfl (by exact hown) (by first | omega | (simp; omega)) (by first | omega | (simp; omega)) (by first | omega | (simp; omega)) ?_; intro v' w' h1 h2 h3))
      go_roundw
      case rel => exact ⟨k + 1, by omega, by go_num, by rw [take_snoc HX.out, List.map_append]; exact h1, hb2.trans h2⟩
      case measure => simp [intOf] <;> omega
    · obtain rfl : k = l.length := by omega
      go_wp2
      go_ret
      exact ⟨_, rfl, by rw [List.take_length] at hown; simpa using hown, hb⟩

/-- Are two lists of numbers the same? -/
def sameC (xs ys : List Z) : Bool := decide (xs.map zv = ys.map zv)
def SameLoop (w : World) (xs ys : List Z) (i : Value) (wr : World) : Prop := ∃ k : Nat, k ≤ xs.length ∧ i = .int .i64 k ∧ (∀ j : Nat, j < k → (xs[j]?).map zv = (ys[j]?).map zv) ∧ Dr w wr
theorem sameC_true {xs ys : List Z} (h : xs.length = ys.length) (hs : ∀ j : Nat, j < xs.length → (xs[j]?).map zv = (ys[j]?).map zv) : sameC xs ys = true := by
  unfold sameC
  rw [decide_eq_true_eq]
  apply List.ext_getElem?
  intro j
  rw [List.getElem?_map, List.getElem?_map]
  by_cases hj : j < xs.length
  · exact hs j hj
  · rw [List.getElem?_eq_none (by omega), List.getElem?_eq_none (by omega)]
theorem sameC_len {xs ys : List Z} (h : xs.length ≠ ys.length) : sameC xs ys = false := by
  unfold sameC
  rw [decide_eq_false_iff_not]
  intro e
  have := congrArg List.length e
  simp at this
  exact h this
theorem sameC_at {xs ys : List Z} {j : Nat} {x y : Z} (hx : xs[j]? = some x) (hy : ys[j]? = some y) (h : csame (zv x) (zv y) = false) : sameC xs ys = false := by
  unfold sameC
  rw [decide_eq_false_iff_not]
  intro e
  have := congrArg (fun l => l[j]?) e
  simp [hx, hy] at this
  rw [csame_iff] at h
  simp [this] at h
set_option maxRecDepth 100000 in
set_option maxHeartbeats 1000000 in
theorem SameNumbers_any (xs ys : List Z) (va vb : Value) (w : World) (hn : xs.length ≤ 140737488355328) (hx : Sl w va (xs.map C)) (hy : Sl w vb (ys.map C)) :
    Calls Try.prog 16 #[va, vb] w (RetB w (sameC xs ys)) := by
  obtain ⟨a, cap, rfl, hcx⟩ := hx.cz
  obtain ⟨b, cap2, rfl, hcy⟩ := hy.cz
  by_cases hl : xs.length = ys.length
  · have hl1 : ((xs.length : Int) != (ys.length : Int)) = false := by rw [hl]; simp
    have HL := hid hl
    clear hl
    go_enter Try.func16, Try.ntmps16
    go_wp2
    clear hl1
    go_loopw [5] (fun i w' => SameLoop w xs ys i w') (fun i _ => xs.length + 1 - (intOf i).toNat)
    case atStart => exact ⟨0, Nat.zero_le _, rfl, by omega, Dr.refl _⟩
    case round =>
      obtain ⟨k, hk, rfl, hs, hd⟩ := hrel
      have Hs := hid hs
      have Hd := hid hd
      obtain ⟨hcx', hcy'⟩ : (∀ (j : Nat) (z : Z), xs[j]? = some z → ∃ b off, a = some ⟨b, off, none⟩ ∧ wr.cell? ⟨b, off + j, none⟩ = some (.complex .f64 z.1 z.2)) ∧ (∀ (j : Nat) (z : Z), ys[j]? = some z → ∃ b' off, b = some ⟨b', off, none⟩ ∧ wr.cell? ⟨b', off + j, none⟩ = some (.complex .f64 z.1 z.2)) := by
        obtain ⟨n, rfl⟩ := hd
        exact ⟨hcx, hcy⟩
      clear hs hd hcx hcy
      by_cases hlt : k < xs.length
      · have hlt2 : k < ys.length := by rw [← HL.out]; exact hlt
        obtain ⟨⟨x1, x2⟩, hx1⟩ : ∃ x, xs[k]? = some x := ⟨_, List.getElem?_eq_getElem hlt⟩
        obtain ⟨⟨y1, y2⟩, hy1⟩ : ∃ y, ys[k]? = some y := ⟨_, List.getElem?_eq_getElem hlt2⟩
        obtain ⟨ba, offa, rfl, cx⟩ := hcx' k _ hx1
        obtain ⟨bb, offb, rfl, cy⟩ := hcy' k _ hy1
        have HX := hid hx1
        have HY := hid hy1
        have g2 : (k : Int) < (ys.length : Int) := by omega
        have g3 : (k : Int) < (xs.length : Int) := by omega
        clear hcx' hcy' hx1 hy1
        cases hxy : csame (cv x1 x2) (cv y1 y2)
        · go_wp2
          go_quiet ((go_at_call 42; exact Calls.quiet_of_same ((kSame_any _ _ _ _ _).mono fun _ _ h => ⟨h.1, h.2.symm⟩)))
          go_wp2
          go_ret
          exact ⟨by rw [sameC_at HX.out HY.out hxy]; rfl, (by first | with_reducible exact Hd.out | with_reducible exact Dr.trans Hd.out (Dr.mk _ _))⟩
        · go_wp2
          go_quiet ((go_at_call 42; exact Calls.quiet_of_same ((kSame_any _ _ _ _ _).mono fun _ _ h => ⟨h.1, h.2.symm⟩)))
          go_wp2
          go_roundw
          case rel =>
            refine ⟨k + 1, by omega, by go_num, fun j hj => ?_, (by first | with_reducible exact Hd.out | with_reducible exact Dr.trans Hd.out (Dr.mk _ _))⟩
            by_cases hjk : j = k
            · subst hjk
              rw [HX.out, HY.out]
              rw [csame_iff, decide_eq_true_eq] at hxy
              exact congrArg some hxy
            · exact Hs.out j (by omega)
          case measure => simp [intOf] <;> omega
      · obtain rfl : k = xs.length := by omega
        clear hcx' hcy'
        go_wp2
        go_ret
        exact ⟨by rw [sameC_true HL.out Hs.out]; rfl, (by first | with_reducible exact Hd.out | with_reducible exact Dr.trans Hd.out (Dr.mk _ _))⟩
  · have hl1 : ((xs.length : Int) != (ys.length : Int)) = true := by rw [bne_iff_ne]; omega
    clear hcx hcy
    go_enter Try.func16, Try.ntmps16
    go_wp2
    go_ret
    exact ⟨by rw [sameC_len hl]; rfl, (by first | with_reducible exact Dr.refl _ | with_reducible exact Dr.mk _ _ | with_reducible exact Dr.trans (Dr.mk _ _) (Dr.mk _ _))⟩
end Go.Proofs.Ytfnbohpfcdddgaa

namespace Go.Proofs.Ytfnbohpfcdddgaa
open Go.RowKit

/-- A mark. -/
def markV (k i : Int) : Option Nat := fsub (val (ofInt (-1000 * k - i))) (val 4620130267728707584)
def markW (k : Int) : Option Nat := val (ofInt k)
set_option maxHeartbeats 1000000 in
theorem markNumbers_any (k i : Int) (w : World) (hk0 : 0 ≤ k) (hk : k ≤ 1000) (hi0 : 0 ≤ i) (hi : i ≤ 9007199254740992) :
    Calls Try.prog 39 #[.int .i64 k, .int .i64 i] w (RetC w (markV k i, markW k)) := by
  unfold markV markW ofInt
  go_enter Try.func39, Try.ntmps39
  go_wp2_with (first | ((with_reducible refine upon_fadd ?_); intro r n hr hl) | ((with_reducible refine upon_fsub ?_); intro r n hr hl) | ((with_reducible refine upon_fmul ?_); intro r n hr hl) | ((with_reducible refine upon_fdiv ?_); intro r n hr hl) | ((with_reducible refine upon_fmax (by assumption) (by assumption) ?_); intro r n hr hl) | ((with_reducible refine upon_fmin (by assumption) (by assumption) ?_); intro r n hr hl))
  go_ret
  exact ⟨_, _, rfl, (by first | with_reducible exact Dr.mk _ _ | with_reducible exact Dr.refl _), by unfold cv; congr 1 <;> assumption, (by first | with_reducible assumption | with_reducible exact isW_0 | with_reducible exact isW_inf), (by first | assumption | exact isW_ofInt _)⟩

theorem CopyNumbers_any (l : List Z) (v0 : Value) (w : World) (hn : l.length * 16 ≤ 140737488355328) (hs : Sl w v0 (l.map C)) :
    Calls Try.prog 38 #[v0] w (RetL w 63 (l.map C)) := by
  have h1 : (l.map C).length = l.length := List.length_map _
  have hone : ∀ u ∈ l.map C, u.oneCell' = true := by
    intro u hu
    obtain ⟨b, _, rfl⟩ := List.mem_map.1 hu
    rfl
  have H1 := hid hone
  clear hone
  go_enter Try.func38, Try.ntmps38
  go_wp2_with (at_builtin; refine wpList_appN rfl _ _ 41 rfl w.heap.size 63 _ 16 Try.underlying41 info_c rfl _ 0 _ _ _ rfl rfl (by exact hs) H1.out (World.ownsRow_nil _ _ _ _) (by omega) (by omega) (Nat.le_refl _) ?_; intro v' w' h1 h2 h3)
  go_ret
  exact ⟨_, rfl, by simpa using h1, h2⟩

/-- The marks behind a list that is lent. -/
def markB (i : Nat) : Nat := (markV 7 i).getD 0
theorem markB_some : ∀ i : Nat, i < 6 → markV 7 (i : Int) = some (markB i) := by decide +kernel
theorem markB_w : ∀ i : Nat, i < 6 → markB i < 18446744073709551616 := by decide +kernel
def sevenB : Nat := ofInt 7
theorem seven_some : markW 7 = some sevenB := by decide +kernel
def markZ (i : Nat) : Z := (markB i, sevenB)
def lent (l : List Z) : List Z := l ++ (List.range 6).map markZ
theorem lent_length (l : List Z) : (lent l).length = l.length + 6 := by simp [lent]
theorem lent_take (l : List Z) : (lent l).take l.length = l := by simp [lent]
def LentLoop (w : World) (l : List Z) (v i : Value) (wr : World) : Prop := ∃ k : Nat, k ≤ 6 ∧ i = .int .i64 k ∧ wr.ownsRow w.heap.size 63 1 v (l.length + k) ((l ++ (List.range k).map markZ).map C) ∧ Below w.heap.size w wr

set_option maxRecDepth 100000 in
set_option maxHeartbeats 1000000 in
theorem LentNumbers_any (l : List Z) (v0 : Value) (w : World) (hn : (l.length + 6) * 16 ≤ 140737488355328) (hs : Sl w v0 (l.map C)) :
    Calls Try.prog 13 #[v0] w (RetL w 63 ((lent l).map C)) := by
  have Hs := hid hs
  clear hs
  have HS := hid seven_some
  go_enter Try.func13, Try.ntmps13
  go_wp2_with (go_at_call 38; refine (CopyNumbers_any l _ _ (by omega) Hs.out).mono ?_; rintro e w' ⟨v, rfl, h1, h2⟩)
  go_loopw [3, 4] (fun v i w' => LentLoop w l v i w') (fun _ i _ => 6 - (intOf i).toNat)
  case atStart => exact ⟨0, Nat.zero_le _, rfl, by simpa using h1, h2⟩
  case round =>
    clear h1 h2
    obtain ⟨k, hk, rfl, hown, hb⟩ := hrel
    have hz := hb.size
    by_cases hlt : k < 6
    · have hmk := markB_some k hlt
      have Hm := hid hmk
      clear hmk
      go_wp2_with (first | (go_at_call 39; (with_reducible refine (markNumbers_any _ _ _ (by omega) (by omega) (by omega) (by omega)).mono ?_); rintro e w' ⟨x, y, rfl, ⟨n, rfl⟩, hr, hx, hy⟩; have HR := hid hr; clear hr) | (at_builtin; refine wpList_app1 rfl _ _ 41 rfl w.heap.size 63 _ 16 Try.underlying41 info_c rfl _ (l.length + k) _ (.complex .f64 x y) rfl rfl rfl (by exact hown) (by first | omega | (simp; omega)) (by first | omega | (simp; omega)) (by first | omega | (simp; omega)) ?_; intro v' w' h1 h2 h3))
      go_roundw
      case rel =>
        refine ⟨k + 1, by omega, by go_num, ?_, hb.trans (below_of_drewN h2)⟩
        have e1 : x = markB k := val_inj ((congrArg Prod.fst HR.out).trans Hm.out)
        have e2 : y = sevenB := val_inj ((congrArg Prod.snd HR.out).trans HS.out)
        rw [e1, e2] at h1
        rw [← Nat.add_assoc]
        simpa [List.range_succ, C, markZ] using h1
      case measure => simp [intOf]; omega
    · obtain rfl : k = 6 := by omega
      go_wp2
      go_ret
      exact ⟨_, rfl, by rw [List.length_map, lent_length]; exact hown, hb⟩

theorem sameC_self (xs : List Z) : sameC xs xs = true := by simp [sameC]
set_option maxRecDepth 100000 in
set_option maxHeartbeats 1000000 in
theorem KeptNumbers_any (xs l : List Z) (va vb : Value) (w : World) (hn : xs.length ≤ 140737488355328) (hm : (l.length + 6) * 16 ≤ 140737488355328) (ha : Sl w va (xs.map C)) (hb : Sl w vb (l.map C)) :
    Calls Try.prog 18 #[va, vb] w fun e w' => e = .returned (.bool (sameC xs (lent l))) ∧ Below w.heap.size w w' := by
  have Ha := hid ha
  have Hb := hid hb
  clear ha hb
  go_enter Try.func18, Try.ntmps18
  go_wp2_with (first | (go_at_call 13; refine (LentNumbers_any l _ _ hm Hb.out).mono ?_; rintro e w1 ⟨v, rfl, h1, h2⟩) | (go_at_call 16; refine (SameNumbers_any xs (lent l) _ _ _ hn (Ha.out.below h2) (Sl.of_owns h1)).mono ?_; rintro e w2 ⟨rfl, n, rfl⟩))
  go_ret
  exact ⟨rfl, below_drewN' h2 _⟩
end Go.Proofs.Ytfnbohpfcdddgaa
