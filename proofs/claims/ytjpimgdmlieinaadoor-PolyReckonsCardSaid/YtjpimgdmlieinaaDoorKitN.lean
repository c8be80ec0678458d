/- The kit's functions on lists of numbers that are lent: copied, marks behind; are they kept? Conditions: lengths as the reach has them. -/
import Derived.Test.YtjpimgdmlieinaaDoorKitC
namespace Go.Proofs.YtjpimgdmlieinaaDoor
open Go.RowKit

/-- A mark. -/
def markV (k i : Int) : Option Nat := fsub (val (ofInt (-1000 * k - i))) (val 4620130267728707584)
def markW (k : Int) : Option Nat := val (ofInt k)
set_option maxHeartbeats 1000000 in
theorem markNumbers_any (k i : Int) (w : World) (hk0 : 0 ≤ k) (hk : k ≤ 1000) (hi0 : 0 ≤ i) (hi : i ≤ 9007199254740992) :
    Calls Tryd.prog 69 #[.int .i64 k, .int .i64 i] w (RetC w (markV k i, markW k)) := by
  unfold markV markW ofInt
  go_enter Tryd.func69, Tryd.ntmps69
  go_wp2_with (first | ((with_reducible refine upon_fadd ?_); intro r n hr hl) | ((with_reducible refine upon_fsub ?_); intro r n hr hl) | ((with_reducible refine upon_fmul ?_); intro r n hr hl) | ((with_reducible refine upon_fdiv ?_); intro r n hr hl) | ((with_reducible refine upon_fmax (by assumption) (by assumption) ?_); intro r n hr hl) | ((with_reducible refine upon_fmin (by assumption) (by assumption) ?_); intro r n hr hl))
  go_ret
  exact ⟨_, _, rfl, (by first | with_reducible exact Dr.mk _ _ | with_reducible exact Dr.refl _), by unfold cv; congr 1 <;> assumption, (by first | with_reducible assumption | with_reducible exact isW_0 | with_reducible exact isW_inf), (by first | assumption | exact isW_ofInt _)⟩

theorem CopyNumbers_any (l : List Z) (v0 : Value) (w : World) (hn : l.length * 16 ≤ 140737488355328) (hs : Sl w v0 (l.map C)) :
    Calls Tryd.prog 68 #[v0] w (RetL w 33 (l.map C)) := by
  have h1 : (l.map C).length = l.length := List.length_map _
  have hone : ∀ u ∈ l.map C, u.oneCell' = true := by
    intro u hu
    obtain ⟨b, _, rfl⟩ := List.mem_map.1 hu
    rfl
  have H1 := hid hone
  clear hone
  go_enter Tryd.func68, Tryd.ntmps68
  go_wp2_with (at_builtin; refine wpList_appN rfl _ _ 57 rfl w.heap.size 33 _ 16 Tryd.underlying57 info_c rfl _ 0 _ _ _ rfl rfl (by exact hs) H1.out (World.ownsRow_nil _ _ _ _) (by omega) (by omega) (Nat.le_refl _) ?_; intro v' w' h1 h2 h3)
  go_ret
  exact ⟨_, rfl, by simpa using h1, h2⟩

/-- The marks behind a list that is lent. -/
def markB (i : Nat) : Nat := (markV 7 i).getD 0
theorem markB_some : ∀ i : Nat, i < 6 → markV 7 (i : Int) = some (markB i) := by decide +kernel
theorem markB_w : ∀ i : Nat, i < 6 → markB i < 18446744073709551616 := by decide +kernel
def sevenB : Nat := ofInt 7
theorem seven_some : markW 7 = some sevenB := by decide +kernel
def markZ (i : Nat) : Z := (markB i, sevenB)
def lent (l : List Z) : List Z := l ++ (List.range 6).map markZ
theorem lent_length (l : List Z) : (lent l).length = l.length + 6 := by simp [lent]
theorem lent_take (l : List Z) : (lent l).take l.length = l := by simp [lent]
def LentLoop (w : World) (l : List Z) (v i : Value) (wr : World) : Prop := ∃ k : Nat, k ≤ 6 ∧ i = .int .i64 k ∧ wr.ownsRow w.heap.size 33 1 v (l.length + k) ((l ++ (List.range k).map markZ).map C) ∧ Below w.heap.size w wr

set_option maxRecDepth 100000 in
set_option maxHeartbeats 1000000 in
theorem LentNumbers_any (l : List Z) (v0 : Value) (w : World) (hn : (l.length + 6) * 16 ≤ 140737488355328) (hs : Sl w v0 (l.map C)) :
    Calls Tryd.prog 26 #[v0] w (RetL w 33 ((lent l).map C)) := by
  have Hs := hid hs
  clear hs
  have HS := hid seven_some
  go_enter Tryd.func26, Tryd.ntmps26
  go_wp2_with (go_at_call 68; refine (CopyNumbers_any l _ _ (by omega) Hs.out).mono ?_; rintro e w' ⟨v, rfl, h1, h2⟩)
  go_loopw [3, 4] (fun v i w' => LentLoop w l v i w') (fun _ i _ => 6 - (intOf i).toNat)
  case atStart => exact ⟨0, Nat.zero_le _, rfl, by simpa using h1, h2⟩
  case round =>
    clear h1 h2
    obtain ⟨k, hk, rfl, hown, hb⟩ := hrel
    have hz := hb.size
    by_cases hlt : k < 6
    · have hmk := markB_some k hlt
      have Hm := hid hmk
      clear hmk
      go_wp2_with (first | (go_at_call 69; (with_reducible refine (markNumbers_any _ _ _ (by omega) (by omega) (by omega) (by omega)).mono ?_); rintro e w' ⟨x, y, rfl, ⟨n, rfl⟩, hr, hx, hy⟩; have HR := hid hr; clear hr) | (at_builtin; refine wpList_app1 rfl _ _ 57 rfl w.heap.size 33 _ 16 Tryd.underlying57 info_c rfl _ (l.length + k) _ (.complex .f64 x y) rfl rfl rfl (by exact hown) (by first | omega | (simp; omega)) (by first | omega | (simp; omega)) (by first | omega | (simp; omega)) ?_; intro v' w' h1 h2 h3))
      go_roundw
      case rel =>
        refine ⟨k + 1, by omega, by go_num, ?_, hb.trans (below_of_drewN h2)⟩
        have e1 : x = markB k := val_inj ((congrArg Prod.fst HR.out).trans Hm.out)
        have e2 : y = sevenB := val_inj ((congrArg Prod.snd HR.out).trans HS.out)
        rw [e1, e2] at h1
        rw [← Nat.add_assoc]
        simpa [List.range_succ, C, markZ] using h1
      case measure => simp [intOf]; omega
    · obtain rfl : k = 6 := by omega
      go_wp2
      go_ret
      exact ⟨_, rfl, by rw [List.length_map, lent_length]; exact hown, hb⟩

theorem sameC_self (xs : List Z) : sameC xs xs = true := by simp [sameC]
set_option maxRecDepth 100000 in
set_option maxHeartbeats 1000000 in
theorem KeptNumbers_any (xs l : List Z) (va vb : Value) (w : World) (hn : xs.length ≤ 140737488355328) (hm : (l.length + 6) * 16 ≤ 140737488355328) (ha : Sl w va (xs.map C)) (hb : Sl w vb (l.map C)) :
    Calls Tryd.prog 35 #[va, vb] w fun e w' => e = .returned (.bool (sameC xs (lent l))) ∧ Below w.heap.size w w' := by
  have Ha := hid ha
  have Hb := hid hb
  clear ha hb
  go_enter Tryd.func35, Tryd.ntmps35
  go_wp2_with (first | (go_at_call 26; refine (LentNumbers_any l _ _ hm Hb.out).mono ?_; rintro e w1 ⟨v, rfl, h1, h2⟩) | (go_at_call 37; refine (SameNumbers_any xs (lent l) _ _ _ hn (Ha.out.below h2) (Sl.of_owns h1)).mono ?_; rintro e w2 ⟨rfl, n, rfl⟩))
  go_ret
  exact ⟨rfl, below_drewN' h2 _⟩
end Go.Proofs.YtjpimgdmlieinaaDoor
