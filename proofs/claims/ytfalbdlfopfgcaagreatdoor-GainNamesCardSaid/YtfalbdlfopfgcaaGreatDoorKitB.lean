/- Lists of reals and of whole numbers: the functions of the kit. Conditions: lengths as the reach has them. -/
import Derived.Test.YtfalbdlfopfgcaaGreatDoorKitA
namespace Go.Proofs.YtfalbdlfopfgcaaGreatDoor
open Go.RowKit

/-- What a function hands back that makes a list: it reads as xs, in memory of its own; what was there stays. -/
def RetL (w : World) (e0 : Nat) (xs : List Value) (e : Ending) (w' : World) : Prop := ∃ v, e = .returned v ∧ w'.ownsRow w.heap.size e0 1 v xs.length xs ∧ Below w.heap.size w w'
def RetLE (w : World) (e0 : Nat) (xs : List Value) (n : Int) (e : Ending) (w' : World) : Prop := ∃ v, e = .returned (.tuple #[v, .int .i64 n]) ∧ w'.ownsRow w.heap.size e0 1 v xs.length xs ∧ Below w.heap.size w w'
def FloatsLoop (w : World) (l : List Nat) (v i : Value) (wr : World) : Prop := ∃ k : Nat, k ≤ l.length ∧ i = .int .i64 k ∧ wr.ownsRow w.heap.size 29 1 v k ((l.take k).map F) ∧ Below w.heap.size w wr

theorem take_snoc {α : Type} {l : List α} {k : Nat} {x : α} (h : l[k]? = some x) : l.take (k + 1) = l.take k ++ [x] := by
  rw [List.take_add_one, h]; rfl

/-- The marks behind a list that is lent. -/
def markB (i : Nat) : Nat := (markV 7 i).getD 0
theorem markB_some : ∀ i : Nat, i < 6 → markV 7 (i : Int) = some (markB i) := by decide +kernel
def lent (l : List Nat) : List Nat := l ++ (List.range 6).map markB
theorem lent_length (l : List Nat) : (lent l).length = l.length + 6 := by simp [lent]
def LentLoop (w : World) (l : List Nat) (v i : Value) (wr : World) : Prop := ∃ k : Nat, k ≤ 6 ∧ i = .int .i64 k ∧ wr.ownsRow w.heap.size 29 1 v (l.length + k) ((l ++ (List.range k).map markB).map F) ∧ Below w.heap.size w wr

/-- Are two lists the same, real by real? -/
def sameL (xs ys : List Nat) : Bool := decide (xs.map val = ys.map val)
theorem sameL_self (xs : List Nat) : sameL xs xs = true := by simp [sameL]
def SameLoop (w : World) (xs ys : List Nat) (i : Value) (wr : World) : Prop := ∃ k : Nat, k ≤ xs.length ∧ i = .int .i64 k ∧ (∀ j, j < k → (xs[j]?).map val = (ys[j]?).map val) ∧ Dr w wr
theorem sameL_true {xs ys : List Nat} (h : xs.length = ys.length) (hs : ∀ j, j < xs.length → (xs[j]?).map val = (ys[j]?).map val) : sameL xs ys = true := by
  unfold sameL
  rw [decide_eq_true_eq]
  apply List.ext_getElem?
  intro j
  rw [List.getElem?_map, List.getElem?_map]
  by_cases hj : j < xs.length
  · exact hs j hj
  · rw [List.getElem?_eq_none (by omega), List.getElem?_eq_none (by omega)]
theorem sameL_len {xs ys : List Nat} (h : xs.length ≠ ys.length) : sameL xs ys = false := by
  unfold sameL
  rw [decide_eq_false_iff_not]
  intro e
  have := congrArg List.length e
  simp at this
  exact h this
theorem sameL_at {xs ys : List Nat} {j x y : Nat} (hx : xs[j]? = some x) (hy : ys[j]? = some y) (h : same (val x) (val y) = false) : sameL xs ys = false := by
  unfold sameL
  rw [decide_eq_false_iff_not]
  intro e
  have := congrArg (fun l => l[j]?) e
  simp [hx, hy] at this
  simp [same, this] at h

def isameLoop (w : World) (xs ys : List Int) (i : Value) (wr : World) : Prop := ∃ k : Nat, k ≤ xs.length ∧ i = .int .i64 k ∧ (∀ j, j < k → xs[j]? = ys[j]?) ∧ Dr w wr
theorem list_eq_of {α : Type} {xs ys : List α} (h : xs.length = ys.length) (hs : ∀ j, j < xs.length → xs[j]? = ys[j]?) : xs = ys := by
  apply List.ext_getElem?
  intro j
  by_cases hj : j < xs.length
  · exact hs j hj
  · rw [List.getElem?_eq_none (by omega), List.getElem?_eq_none (by omega)]

set_option maxRecDepth 100000 in
set_option maxHeartbeats 400000 in
theorem SameInts_any (xs ys : List Int) (va vb : Value) (w : World) (hn : xs.length ≤ 140737488355328) (_hm : ys.length ≤ 140737488355328) (ha : Sl w va (xs.map I)) (hb : Sl w vb (ys.map I)) :
    Calls Tryz.prog 51 #[va, vb] w (RetB w (decide (xs = ys))) := by
  obtain ⟨a, ca, rfl, hra, _, _⟩ := ha
  obtain ⟨b, cb, rfl, hrb, _, _⟩ := hb
  simp only [List.length_map]
  by_cases hl : xs.length = ys.length
  · have hl1 : ((xs.length : Int) != (ys.length : Int)) = false := by rw [hl]; simp
    have HL := hid hl
    clear hl
    go_enter Tryz.func51, Tryz.ntmps51
    go_wp2
    clear hl1
    go_loopw [5] (isameLoop w xs ys) (fun i _ => xs.length - (intOf i).toNat)
    case atStart => exact ⟨0, Nat.zero_le _, rfl, by omega, (by first | with_reducible exact Dr.mk _ _ | with_reducible exact Dr.refl _)⟩
    case round =>
      obtain ⟨k, hk, rfl, hs, hd⟩ := hrel
      have Hs := hid hs
      have Hd := hid hd
      clear hs hd
      by_cases hlt : k < xs.length
      · have hlt2 : k < ys.length := by rw [← HL.out]; exact hlt
        obtain ⟨x, hx⟩ : ∃ x, xs[k]? = some x := ⟨_, List.getElem?_eq_getElem hlt⟩
        obtain ⟨y, hy⟩ : ∃ y, ys[k]? = some y := ⟨_, List.getElem?_eq_getElem hlt2⟩
        obtain ⟨ba, offa, rfl, hca⟩   := (Hd.out.row hra).at (k := k) (x := I x) (by simp [hx])
        obtain ⟨bb, offb, rfl, hcb⟩   := (Hd.out.row hrb).at (k := k) (x := I y) (by simp [hy])
        have hcx := hca k (I x) (by simp [hx])
        have hcy := hcb k (I y) (by simp [hy])
        have HX := hid hx
        have HY := hid hy
        clear hca hcb hra hrb hx hy
        unfold I at hcx hcy
        cases hxy : (x != y)
        · go_wp2
          go_quiet (fail)
          go_wp2
          go_roundw
          case rel =>
            refine ⟨k + 1, by omega, by go_num, fun j hj => ?_, (by first | with_reducible exact Hd.out | with_reducible exact Dr.trans Hd.out (Dr.mk _ _))⟩
            by_cases hjk : j = k
            · subst hjk
              rw [HX.out, HY.out]
              simpa using hxy
            · exact Hs.out j (by omega)
          case measure => simp [intOf]; omega
        · go_wp2
          go_quiet (fail)
          go_wp2
          go_ret
          rw [show decide (xs = ys) = false from decide_eq_false fun e => by have h := HX.out; rw [e, HY.out] at h; cases h; simp at hxy]
          exact ⟨rfl, (by first | with_reducible exact Hd.out | with_reducible exact Dr.trans Hd.out (Dr.mk _ _))⟩
      · obtain rfl : k = xs.length := by omega
        go_wp2
        go_ret
        rw [show decide (xs = ys) = true from decide_eq_true (list_eq_of HL.out Hs.out)]
        exact ⟨rfl, (by first | with_reducible exact Hd.out | with_reducible exact Dr.trans Hd.out (Dr.mk _ _))⟩
  · have hl1 : ((xs.length : Int) != (ys.length : Int)) = true := by rw [bne_iff_ne]; omega
    go_enter Tryz.func51, Tryz.ntmps51
    go_wp2
    go_ret
    rw [show decide (xs = ys) = false from decide_eq_false fun e => hl (by rw [e])]
    exact ⟨rfl, (by first | with_reducible exact Dr.mk _ _ | with_reducible exact Dr.refl _)⟩
end Go.Proofs.YtfalbdlfopfgcaaGreatDoor

