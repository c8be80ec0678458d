/- lower.part: the matrix of what a closure tells of each place. Condition: the matrix was made, at most 64 rows; the closure tells one number for each place in every world of more memory. lower.L, U, Order; solve.open. Condition: the matrix was made, at most 64 rows. solve.open: an eliminated matrix taken apart. Condition: it was made, at most 64 rows, its sign 1 or -1. solve.wrong, less, by; what solve.Solve computes, plainly. Condition: none on the numbers. What solve.Solve keeps: the unknowns, the flag; the entries of the factors' lists. Condition: none. -/
import Derived.Test.YtgcakhmdmajplaaTlCM
import Derived.Test.YtgcakhmdmajplaaTpF
import Derived.Deep.CutRange
import Derived.Test.YtgcakhmdmajplaaNLInM
namespace Go.Proofs.Ytgcakhmdmajplaa
open Go.RowKit

def partF (n : Nat) (F : Nat → Nat → CV) (i j : Nat) : List CV := ((List.range i).flatMap fun a => (List.range n).map (F a)) ++ (List.range j).map (F i)
def RetPart (w : World) (n : Nat) (F : Nat → Nat → CV) (E : Ending) (w' : World) : Prop := ∃ (v : Value) (l : List Z), E = .returned (.agg #[.int .i64 n, .int .i64 n, v]) ∧ w'.ownsRow w.heap.size 44 1 v (n * n) (l.map C) ∧ l.map zv = partF n F n 0 ∧ Below w.heap.size w w'
theorem partF_len (n : Nat) (F : Nat → Nat → CV) (j : Nat) : ∀ i, (partF n F i j).length = i * n + j := by
  intro i
  unfold partF
  rw [List.length_append, List.length_map, List.length_range]
  congr 1
  induction i with
  | zero => simp
  | succ i ih => rw [List.range_succ, List.flatMap_append, List.length_append, ih]; simp [Nat.succ_mul]
theorem partF_next (n : Nat) (F : Nat → Nat → CV) (i j : Nat) : partF n F i (j + 1) = partF n F i j ++ [F i j] := by
  unfold partF
  rw [List.range_succ, List.map_append, List.append_assoc]
  rfl
theorem partF_row (n : Nat) (F : Nat → Nat → CV) (i : Nat) : partF n F (i + 1) 0 = partF n F i n := by
  unfold partF
  rw [List.range_succ, List.flatMap_append]
  simp
theorem own_cap0 (m : Nat) (hm : m ≤ 4096) (w : World) : (w.alloc (.cells (Array.replicate m (Value.complex .f64 0 0)) 44)).ownsRow w.heap.size 44 1 (.slice (some ⟨w.heap.size, 0, none⟩) 0 m) 0 [] := by
  refine ⟨by simp, .inr ⟨w.heap.size, m, Array.replicate m (Value.complex .f64 0 0), rfl, Nat.le_refl _, blk_new _ _, Nat.zero_le _, by simp only [maxLen]; omega, by simp, by simp⟩⟩
theorem results_m1 {fn : Func} {p : Tmp} (h : fn.results = #[.cell p 35]) (tmps : Array Value) (w : World) (b : Nat) (x y z : Value) (hp : tmps.getD p undef = .pointer (some ⟨b, 0, none⟩))
    (c0 : w.cell? ⟨b, 0, none⟩ = some x) (c1 : w.cell? ⟨b, 1, none⟩ = some y) (c2 : w.cell? ⟨b, 2, none⟩ = some z) :
    (results fn tmps).run Try.prog w = .ok (.agg #[x, y, z]) w := by
  simp only [Array.getD_eq_getD_getElem?] at hp ⊢
  simp [results, h, hp, go_sem, c0, c1, c2, Sem.run_bind, Result.andThen]
/-- What part keeps. -/
def PartS (W : World) (n : Nat) (F : Nat → Nat → CV) (i j : Nat) (w : World) : Prop := ∃ (ρ : Nat → Rw) (v : Value) (l : List Z), RS W.heap.size ρ w ∧ ρ 0 = ⟨44, 1, v, i * n + j, l.map C⟩ ∧ ρ 1 = ⟨35, 3, .slice (some ⟨W.heap.size + 1 + 1, 0, none⟩) 1 1, 1, [.int .i64 n, .int .i64 n, v]⟩ ∧ ρ 2 = ⟨35, 3, .slice (some ⟨W.heap.size, 0, none⟩) 1 1, 1, [.int .i64 0, .int .i64 0, .slice none 0 0]⟩ ∧ l.map zv = partF n F i j ∧ Below W.heap.size W w
def POut (W : World) (n : Nat) (F : Nat → Nat → CV) (i : Value) (w : World) : Prop := ∃ k, i = .int .i64 ((k : Nat) : Int) ∧ k ≤ n ∧ PartS W n F k 0 w
def PIn (W : World) (n : Nat) (F : Nat → Nat → CV) (k : Nat) (j : Value) (w : World) : Prop := ∃ t, j = .int .i64 ((t : Nat) : Int) ∧ t ≤ n ∧ PartS W n F k t w
set_option maxRecDepth 100000 in
set_option maxHeartbeats 4000000 in
theorem Part_any (w : World) (lb n : Nat) (hn : n ≤ 64) (M : Nat → Nat → CV) (od : Nat → Nat) (sg : Int) (h : LoV w lb n M od sg) (fid : FuncId) (hcf : ∀ args w, Sem.run Try.prog (callFunc fid args) w = .ok (.enter fid args) w) (bx : Nat) (F : Nat → Nat → CV)
    (HF : ∀ w', Below w.heap.size w w' → ∀ i j : Nat, i < n → j < n → Calls Try.prog fid #[.int .i64 i, .int .i64 j, .pointer (some ⟨bx, 0, none⟩)] w' (RetCW w' (F i j))) :
    Calls Try.prog 98 #[.pointer (some ⟨lb, 0, none⟩), .func (.func fid) #[] #[.pointer (some ⟨bx, 0, none⟩)]] w (RetPart w n F) := by
  replace HF := hid HF
  obtain ⟨m, hm⟩ : ∃ m, m = n * n := ⟨_, rfl⟩
  have hmi : (n : Int) * (n : Int) = (m : Int) := by rw [hm]; push_cast; rfl
  have hm4 : m ≤ 4096 := by
    have := Nat.mul_le_mul hn hn
    omega
  have hwp : IntKind.i64.wrap (m : Int) = (m : Int) := IntWalk.i64_in _ (by omega)
  replace hm := hid hm
  have hmk := make_cap m hm4
  have HZ := hid (Size_made (h.below (bl_a w (.cells #[.int .i64 0, .int .i64 0, .slice none 0 0] 35))))
  have R0 : RS w.heap.size (fun i => Rw.nil (if i = 0 then 44 else 35) (if i = 0 then 1 else 3)) w := RS.start w.heap.size (fun i => (if i = 0 then 44 else 35, if i = 0 then 1 else 3)) w
  have R1 := R0.one (Nat.le_refl _) 2 35 [.int .i64 0, .int .i64 0, .slice none 0 0]
  have s1 : (w.alloc (.cells #[.int .i64 0, .int .i64 0, .slice none 0 0] 35)).heap.size = w.heap.size + 1 := by simp
  have R2 := R1.push (by simp) (bl_a _ (.cells (Array.replicate m (Value.complex .f64 0 0)) 44)) 0 (Nat.le_refl _) (own_cap0 m hm4 _)
  have R3 := R2.one (by simp; omega) 1 35 [.int .i64 n, .int .i64 n, .slice (some ⟨w.heap.size + 1, 0, none⟩) 0 m]
  have b3 : Below w.heap.size w (((w.alloc (.cells #[.int .i64 0, .int .i64 0, .slice none 0 0] 35)).alloc (.cells (Array.replicate m (Value.complex .f64 0 0)) 44)).alloc (.cells #[.int .i64 n, .int .i64 n, .slice (some ⟨w.heap.size + 1, 0, none⟩) 0 m] 35)) := bla _ (bla _ (bl_a _ _))
  have P3 : PartS w n F 0 0 (((w.alloc (.cells #[.int .i64 0, .int .i64 0, .slice none 0 0] 35)).alloc (.cells (Array.replicate m (Value.complex .f64 0 0)) 44)).alloc (.cells #[.int .i64 n, .int .i64 n, .slice (some ⟨w.heap.size + 1, 0, none⟩) 0 m] 35)) := by
    refine ⟨_, .slice (some ⟨w.heap.size + 1, 0, none⟩) 0 m, [], R3, ?_, ?_, ?_, rfl, b3⟩
    · rw [upd_ne _ _ (by decide), upd_same]
      simp
    · rw [upd_same]
      simp
    · rw [upd_ne _ _ (by decide), upd_ne _ _ (by decide), upd_same]
      rfl
  clear R0 R1 R2 R3 b3 s1
  go_enter Try.func98, Try.ntmps98
  go_upto_region 3 with (go_at_call 89; (with_reducible refine HZ.out.mono ?_); rintro E1 w1 ⟨rfl, rfl⟩)
  obtain ⟨w3, hw3⟩ : ∃ w3, w3 = (((w.alloc (.cells #[.int .i64 0, .int .i64 0, .slice none 0 0] 35)).alloc (.cells (Array.replicate m (Value.complex .f64 0 0)) 44)).alloc (.cells #[.int .i64 n, .int .i64 n, .slice (some ⟨w.heap.size + 1, 0, none⟩) 0 m] 35)) := ⟨_, rfl⟩
  rw [← hw3] at P3 ⊢
  clear hw3 HZ hmk hwp hmi
  go_wp2
  go_loopw [19] (fun i w' => POut w n F i w') (fun i _ => n + 1 - (intOf i).toNat)
  case atStart => exact ⟨0, rfl, Nat.zero_le _, P3⟩
  case round =>
    obtain ⟨k, rfl, hk, PS⟩ := hrel
    clear P3
    by_cases hkn : k < n
    · have g1 : (k : Int) < (n : Int) := by omega
      have hk1 : IntKind.i64.wrap ((k : Int) + 1) = (k : Int) + 1 := IntWalk.i64_in _ (by omega)
      go_wp2
      go_loopw [23] (fun j w' => PIn w n F k j w') (fun j _ => n + 1 - (intOf j).toNat)
      case atStart => exact ⟨0, rfl, Nat.zero_le _, PS⟩
      case round =>
        obtain ⟨t, rfl, ht, ρ, v, l, R, r0, r1, r2, hl, hb⟩ := hrel
        clear PS
        by_cases htn : t < n
        · have g2 : (t : Int) < (n : Int) := by omega
          have ht1 : IntKind.i64.wrap ((t : Int) + 1) = (t : Int) + 1 := IntWalk.i64_in _ (by omega)
          obtain ⟨va, vc, rfl, -⟩ := own_cap (R.at r0)
          have c2 := R.cell r1 (j := 2) rfl
          have lt2 := World.block_lt_of_cell? _ _ c2
          go_upto_region 9 with (fail)
          refine wp_region_takesR blw_ok 5 2 (by kernel_rfl) (by kernel_rfl) (fun _ _ _ _ _ h => h) ?_
          simp only [List.take_succ_cons, List.take_zero, List.drop_succ_cons, List.drop_zero]
          refine wpTk_reck rfl rfl (fun K hK => ?_); unfold Oper.gives; go_simp; refine hK _ ?_; clear hK K
          refine wpTk_load rfl rfl (fun K hK => ?_)
          refine ⟨.slice va (k * n + t) vc, fun w1 h1 => ?_, ?_⟩
          · have e1 : w1.cell? ⟨w.heap.size + 1 + 1, 2, none⟩ = some (.slice va (k * n + t) vc) := (Below.cell h1 lt2).trans c2
            go_simp
          go_simp
          refine hK _ ?_
          clear hK K
          repeat (refine wpTk_reck rfl rfl (fun K hK => ?_); unfold Oper.gives; go_simp; refine hK _ ?_; clear hK K)
          refine wpTk_nil ?_
          refine wpDs_step rfl (fun K hK => ?_)
          go_simp
          with_reducible refine (HF.out _ (bld hb) k t hkn htn).mono ?_
          rintro E4 w4 ⟨x, y, rfl, hxy, rfl⟩
          refine hK _ _ (blw_ok.self _) ?_
          clear hK K
          refine wpDs_step rfl (fun K hK => ?_)
          go_simp
          refine hK _ _ (bl_a _ _) (wpDs_zero ?_)
          clear hK K
          change wpList _ _ _ _ _ (wr.drew.alloc (.cells [Value.complex .f64 x y].toArray 44))
          have hlen : l.length = k * n + t := by
            have := partF_len n F t k
            rw [← hl, List.length_map] at this
            exact this
          have hkm : k * n + t ≤ 4096 := by
            have h1 : (k + 1) * n ≤ 64 * 64 := Nat.mul_le_mul (by omega) hn
            rw [Nat.succ_mul] at h1
            omega
          go_upto_region 10 with (at_builtin; go_loud (refine wpList_app_rs rfl _ _ 33 rfl w.heap.size 44 (.complex .f64 0 0) 1 16 Try.underlying33 (by kernel_rfl) rfl (by decide) _ 0 (R.drew) _ (k * n + t) _ r0 [.complex .f64 x y] rfl rfl rfl (by simp [Value.oneCell']) (by simp only [maxLen]; omega) (by omega) hb.size ?_); intro g7 cap7 w7 R7 b7; have c3 := R7.cell ((upd_ne _ _ (show 1 ≠ 0 by decide)).trans r1) (j := 2) rfl; have c4 := R7.fr ((upd_ne _ _ (show 1 ≠ 0 by decide)).trans r1) 2; go_frame)
          have R8 := R7.store ((upd_ne _ _ (show 1 ≠ 0 by decide)).trans r1) 2 (.slice (some ⟨g7, 0, none⟩) (k * n + t + 1) cap7)
          have P8 : PartS w n F k (t + 1) (w7.setCell ⟨w.heap.size + 1 + 1, 2, none⟩ (.slice (some ⟨g7, 0, none⟩) (k * n + t + 1) cap7)) := by
            refine ⟨_, .slice (some ⟨g7, 0, none⟩) (k * n + t + 1) cap7, l ++ [(x, y)], R8, ?_, ?_, ?_, ?_, ((bld hb).trans b7).setCell (show w.heap.size ≤ w.heap.size + 1 + 1 by omega) _⟩
            · rw [upd_ne _ _ (by decide), upd_same]
              simp [C]
              rfl
            · rw [upd_same]
              rfl
            · rw [upd_ne _ _ (by decide), upd_ne _ _ (by decide), r2]
            · rw [List.map_append, hl, partF_next, ← hxy]
              rfl
          clear R7 R8 c3 c4 c2 lt2 b7 R hb r0 r1 r2 hl
          go_wp2
          go_roundw
          case rel => exact ⟨t + 1, by go_num, htn, P8⟩
          case measure => simp [intOf]; omega
        · obtain rfl : n = t := by omega
          have g2 : ¬ (n : Int) < (n : Int) := by omega
          have P9 : PartS w n F (k + 1) 0 wr := ⟨ρ, v, l, R, by rw [r0, Nat.succ_mul]; rfl, r1, r2, by rw [hl, partF_row], hb⟩
          clear R hb r0 r1 r2 hl
          go_wp2
          go_roundw
          case rel => exact ⟨k + 1, by go_num, hkn, P9⟩
          case measure => simp [intOf]; omega
    · obtain rfl : n = k := by omega
      have g2 : ¬ (n : Int) < (n : Int) := by omega
      obtain ⟨ρ, v, l, R, r0, r1, r2, hl, hb⟩ := PS
      rw [Nat.add_zero] at r0
      obtain ⟨va, vc, rfl, -⟩ := own_cap (R.at r0)
      have R1 := R.store r2 0 (.int .i64 n)
      have R2 := R1.store (upd_same _ _ _) 1 (.int .i64 n)
      have R3 := R2.store (upd_same _ _ _) 2 (.slice va (n * n) vc)
      have b3 := ((hb.setCell (show w.heap.size ≤ (⟨w.heap.size, 0, none⟩ : Addr).block from Nat.le_refl _) (.int .i64 n)).setCell (show w.heap.size ≤ (⟨w.heap.size, 1, none⟩ : Addr).block from Nat.le_refl _) (.int .i64 n)).setCell (show w.heap.size ≤ (⟨w.heap.size, 2, none⟩ : Addr).block from Nat.le_refl _) (.slice va (n * n) vc)
      have o3 := R3.at ((upd_ne _ _ (show 0 ≠ 2 by decide)).trans ((upd_ne _ _ (show 0 ≠ 2 by decide)).trans ((upd_ne _ _ (show 0 ≠ 2 by decide)).trans r0)))
      have e0 := R3.cell (upd_same _ _ _) (j := 0) rfl
      have e1 := R3.cell (upd_same _ _ _) (j := 1) rfl
      have e2 := R3.cell (upd_same _ _ _) (j := 2) rfl
      have c0 := R.cell r1 (j := 0) rfl
      have c1 := R.cell r1 (j := 1) rfl
      have c2 := R.cell r1 (j := 2) rfl
      have d0 := R.cell r2 (j := 0) rfl
      have d1 := R.cell r2 (j := 1) rfl
      have d2 := R.cell r2 (j := 2) rfl
      have f0 := R.fr r2 0
      have f1 := R.fr r2 1
      have f2 := R.fr r2 2
      clear R1 R2 R3 R r0 r1 r2 hb
      go_wp2
      refine bodyPost_ret (results_m1 rfl _ _ w.heap.size (.int .i64 n) (.int .i64 n) (.slice va (n * n) vc) rfl e0 e1 e2) rfl ?_
      exact ⟨_, l, rfl, o3, hl, b3⟩
set_option maxRecDepth 100000 in
theorem cf_L (args : Array Value) (w : World) : Sem.run Try.prog (callFunc 99 args) w = .ok (.enter 99 args) w := by rfl
set_option maxRecDepth 100000 in
theorem cf_U (args : Array Value) (w : World) : Sem.run Try.prog (callFunc 100 args) w = .ok (.enter 100 args) w := by rfl
end Go.Proofs.Ytgcakhmdmajplaa

namespace Go.Proofs.Ytgcakhmdmajplaa
open Go.RowKit

theorem own_set3 {w : World} {base size n : Nat} {e : TypeId} {v : Value} {xs : List Value} (h : w.ownsRow base e size v n xs) {b : Nat} (hb : b < base) (x y z : Value) : (((w.setCell ⟨b, 0, none⟩ x).setCell ⟨b, 1, none⟩ y).setCell ⟨b, 2, none⟩ z).ownsRow base e size v n xs := own_setB (own_setB (own_setB h hb x) hb y) hb z
theorem below_set3 {B : Nat} {w w' : World} {b : Nat} (h : Below B w w') (x y z : Value) (hb : B ≤ b) : Below B w (((w'.setCell ⟨b, 0, none⟩ x).setCell ⟨b, 1, none⟩ y).setCell ⟨b, 2, none⟩ z) := ((h.setCell hb x).setCell hb y).setCell hb z
section
variable {w : World} {lb n : Nat} {M : Nat → Nat → CV} {od : Nat → Nat} {sg : Int}
set_option maxRecDepth 100000 in
set_option maxHeartbeats 4000000 in
theorem L_made (hn : n ≤ 64) (h : LoV w lb n M od sg) : Calls Try.prog 90 #[.pointer (some ⟨lb, 0, none⟩)] w (RetPart w n (lE M)) := by
  have b2 : Below w.heap.size w ((w.alloc (.cells #[.pointer (some ⟨lb, 0, none⟩)] 113)).alloc (.cells #[.int .i64 0, .int .i64 0, .slice none 0 0] 35)) := bla _ (bl_a _ _)
  have M2 : MxAt ((w.alloc (.cells #[.pointer (some ⟨lb, 0, none⟩)] 113)).alloc (.cells #[.int .i64 0, .int .i64 0, .slice none 0 0] 35)) (w.heap.size + 1) 0 0 (.slice none 0 0) := by
    have := blk_new (w.alloc (.cells #[.pointer (some ⟨lb, 0, none⟩)] 113)) (.cells #[.int .i64 0, .int .i64 0, .slice none 0 0] 35)
    rw [World.size_alloc] at this
    exact this
  have p2 : ((w.alloc (.cells #[.pointer (some ⟨lb, 0, none⟩)] 113)).alloc (.cells #[.int .i64 0, .int .i64 0, .slice none 0 0] 35)).cell? ⟨w.heap.size, 0, none⟩ = some (.pointer (some ⟨lb, 0, none⟩)) := cell_alq (by simp)
  have H2 := h.below b2
  have s2 : w.heap.size + 2 ≤ ((w.alloc (.cells #[.pointer (some ⟨lb, 0, none⟩)] 113)).alloc (.cells #[.int .i64 0, .int .i64 0, .slice none 0 0] 35)).heap.size := by simp
  have HP := hid (Part_any _ lb n hn M od sg H2 99 cf_L w.heap.size (lE M) fun w' hb i j hi hj => L_entry (H2.below hb) ((Below.cell hb (World.block_lt_of_cell? _ _ p2)).trans p2) hi hj)
  go_enter Try.func90, Try.ntmps90
  go_wp2_with (go_at_call 98; (with_reducible refine HP.out.mono ?_); rintro E3 w3 ⟨v, l, rfl, own3, hl3, hb3⟩; obtain ⟨va, vc, rfl, -⟩ := own_cap own3; have M3 := MxAt.below M2 hb3; have c0 := M3.c0; have c1 := M3.c1; have c2 := M3.c2; have f0 := M3.fr 0; have f1 := M3.fr 1; have f2 := M3.fr 2)
  have M4 := M3.set n n (.slice va (n * n) vc)
  refine bodyPost_ret (results_m1 rfl _ _ (w.heap.size + 1) (.int .i64 n) (.int .i64 n) (.slice va (n * n) vc) rfl M4.c0 M4.c1 M4.c2) rfl ?_
  exact ⟨_, l, rfl, own_mono (own_set3 own3 s2 _ _ _) (by omega), hl3, below_set3 (bl2 b2 hb3) _ _ _ (Nat.le_succ _)⟩
set_option maxRecDepth 100000 in
set_option maxHeartbeats 4000000 in
theorem U_made (hn : n ≤ 64) (h : LoV w lb n M od sg) : Calls Try.prog 91 #[.pointer (some ⟨lb, 0, none⟩)] w (RetPart w n (uE M)) := by
  have b2 : Below w.heap.size w ((w.alloc (.cells #[.pointer (some ⟨lb, 0, none⟩)] 113)).alloc (.cells #[.int .i64 0, .int .i64 0, .slice none 0 0] 35)) := bla _ (bl_a _ _)
  have M2 : MxAt ((w.alloc (.cells #[.pointer (some ⟨lb, 0, none⟩)] 113)).alloc (.cells #[.int .i64 0, .int .i64 0, .slice none 0 0] 35)) (w.heap.size + 1) 0 0 (.slice none 0 0) := by
    have := blk_new (w.alloc (.cells #[.pointer (some ⟨lb, 0, none⟩)] 113)) (.cells #[.int .i64 0, .int .i64 0, .slice none 0 0] 35)
    rw [World.size_alloc] at this
    exact this
  have p2 : ((w.alloc (.cells #[.pointer (some ⟨lb, 0, none⟩)] 113)).alloc (.cells #[.int .i64 0, .int .i64 0, .slice none 0 0] 35)).cell? ⟨w.heap.size, 0, none⟩ = some (.pointer (some ⟨lb, 0, none⟩)) := cell_alq (by simp)
  have H2 := h.below b2
  have s2 : w.heap.size + 2 ≤ ((w.alloc (.cells #[.pointer (some ⟨lb, 0, none⟩)] 113)).alloc (.cells #[.int .i64 0, .int .i64 0, .slice none 0 0] 35)).heap.size := by simp
  have HP := hid (Part_any _ lb n hn M od sg H2 100 cf_U w.heap.size (uE M) fun w' hb i j hi hj => U_entry (H2.below hb) ((Below.cell hb (World.block_lt_of_cell? _ _ p2)).trans p2) hi hj)
  go_enter Try.func91, Try.ntmps91
  go_wp2_with (go_at_call 98; (with_reducible refine HP.out.mono ?_); rintro E3 w3 ⟨v, l, rfl, own3, hl3, hb3⟩; obtain ⟨va, vc, rfl, -⟩ := own_cap own3; have M3 := MxAt.below M2 hb3; have c0 := M3.c0; have c1 := M3.c1; have c2 := M3.c2; have f0 := M3.fr 0; have f1 := M3.fr 1; have f2 := M3.fr 2)
  have M4 := M3.set n n (.slice va (n * n) vc)
  refine bodyPost_ret (results_m1 rfl _ _ (w.heap.size + 1) (.int .i64 n) (.int .i64 n) (.slice va (n * n) vc) rfl M4.c0 M4.c1 M4.c2) rfl ?_
  exact ⟨_, l, rfl, own_mono (own_set3 own3 s2 _ _ _) (by omega), hl3, below_set3 (bl2 b2 hb3) _ _ _ (Nat.le_succ _)⟩
end
theorem make_ints (n : Nat) (hn : n ≤ 64) (w : World) : (Instr.makeSlice 127 (.int .i64 n) (.int .i64 n)).run Try.prog w = .ok (.slice (some ⟨w.heap.size, 0, none⟩) n n) (w.alloc (.cells (Array.replicate n (Value.int .i64 0)) 3)) := by
  have h := run_make_row' (P := Try.prog) 127 3 (.int .i64 0) 8 Try.underlying127 info_int rfl .i64 .i64 n (by omega) (by omega) w
  have e : (Array.replicate n (Value.int .i64 0)) = madeCells #[.int .i64 0] n := by
    apply Array.ext'
    rw [toList_madeCells_one]
    simp
  rw [e]
  exact h
/-- 'copy(out, l.order)' into a row just made. -/
theorem wpList_copy_i {ops : Array Oper} {rest : List Oper} {o : Oper} {a : Act} {Q : Exit → Act → World → Prop} {w : World} (hgd : o.guard = none) (d s : Operand) (ho : o.op = .call { callee := .builtin .copy, args := #[d, s], argTypes := #[127, 127] }) (g n c : Nat) (sa : Option Addr) (od : Nat → Nat) (w0 : World) (hd : a.eval d = .slice (some ⟨g, 0, none⟩) n n) (hs : a.eval s = .slice sa n c)
    (hg : w.heap[g]? = some (.cells (Array.replicate n (Value.int .i64 0)) 3 (0, 0))) (hn64 : n ≤ 64) (hsrc : 0 < n → ∃ b, sa = some ⟨b, 0, none⟩ ∧ ∀ j, j < n → w.cell? ⟨b, j, none⟩ = some (.int .i64 (od j : Int))) (hB : Below g w0 w)
    (h : ∀ w', w'.ownsRow g 3 1 (.slice (some ⟨g, 0, none⟩) n n) n ((List.range n).map fun j => Value.int .i64 (od j : Int)) → Below g w0 w' → wpList Try.prog ops Q rest (a.put o.dst (goInt n)) w') : wpList Try.prog ops Q (o :: rest) a w := by
  have hcs : ((List.range n).map fun j => Value.int .i64 (od j : Int)).length = n := by simp
  refine wpList_copy_splice hgd d s _ _ ho 3 Try.underlying127 (by kernel_rfl) (some ⟨g, 0, none⟩) sa n n n c hd hs g 0 (List.replicate n (Value.int .i64 0)) 3 (by rw [List.toArray_replicate]; exact hg) ((List.range n).map fun j => Value.int .i64 (od j : Int)) (by rw [hcs]; exact (Nat.min_self n).symm) (fun hp => ?_) (by simp) ?_ g w0 hB (Nat.le_refl _) ?_
  · rw [hcs] at hp
    obtain ⟨b, rfl, hc⟩ := hsrc hp
    refine ⟨rfl, _, rfl, fun j v hj => ?_⟩
    have hjn : j < n := by have := (List.getElem?_eq_some_iff.1 hj).1; simpa using this
    rw [List.getElem?_map, List.getElem?_range hjn] at hj
    obtain rfl := Option.some.inj hj
    rw [Go.WideShapes.add_plain, Nat.zero_add]
    exact hc j hjn
  · intro v hv
    obtain ⟨j, -, rfl⟩ := List.mem_map.1 hv
    rfl
  · intro w' h1 h2
    have h3 := h1.out
    rw [splice_all (by simp)] at h3
    rw [hcs]
    exact h w' ⟨by simp, .inr ⟨g, n, _, rfl, Nat.le_refl _, h3, Nat.le_refl _, by simp only [maxLen]; omega, by simp, List.take_of_length_le (by simp)⟩⟩ h2
def RetOrd (w : World) (n : Nat) (od : Nat → Nat) (E : Ending) (w' : World) : Prop := ∃ v, E = .returned v ∧ w'.ownsRow w.heap.size 3 1 v n ((List.range n).map fun j => Value.int .i64 (od j : Int)) ∧ Below w.heap.size w w'
section
variable {w : World} {lb n : Nat} {M : Nat → Nat → CV} {od : Nat → Nat} {sg : Int}
set_option maxRecDepth 100000 in
set_option maxHeartbeats 4000000 in
theorem Order_made (hn : n ≤ 64) (h : LoV w lb n M od sg) : Calls Try.prog 92 #[.pointer (some ⟨lb, 0, none⟩)] w (RetOrd w n od) := by
  obtain ⟨a, c, c2, hc⟩ := h.c2
  have hlt := World.block_lt_of_cell? _ _ c2
  have HI := hid (is_made h)
  have hmk := make_ints n hn
  have b1 : Below w.heap.size w (w.alloc (.cells (Array.replicate n (Value.int .i64 0)) 3)) := bl_a _ _
  have n1 : (w.alloc (.cells (Array.replicate n (Value.int .i64 0)) 3)).heap[w.heap.size]? = some (.cells (Array.replicate n (Value.int .i64 0)) 3 (0, 0)) := blk_new _ _
  have d2 := cell_alq (o := .cells (Array.replicate n (Value.int .i64 0)) 3) c2
  have hc1 : 0 < n → ∃ b, a = some ⟨b, 0, none⟩ ∧ ∀ j, j < n → (w.alloc (.cells (Array.replicate n (Value.int .i64 0)) 3)).cell? ⟨b, j, none⟩ = some (.int .i64 (od j : Int)) := fun hp => by
    obtain ⟨b, e, hb⟩ := hc hp
    exact ⟨b, e, fun j hj => cell_alq (hb j hj)⟩
  replace hc1 := hid hc1
  clear hc
  go_enter Try.func92, Try.ntmps92
  go_upto_region 5 with (first | (go_at_call 97; (with_reducible refine HI.out.mono ?_); rintro E1 w1 ⟨rfl, rfl⟩) | (refine wpList_copy_i rfl _ _ rfl w.heap.size n c a od w rfl rfl n1 hn hc1.out b1 ?_; intro w5 own5 b5; go_frame))
  go_wp2
  go_ret
  exact ⟨_, rfl, own5, b5⟩
end
end Go.Proofs.Ytgcakhmdmajplaa

namespace Go.Proofs.Ytgcakhmdmajplaa
open Go.RowKit

/-- A system's cells. -/
def SysAt (w : World) (b : Nat) (n : Int) (l u o : Value) : Prop := w.heap[b]? = some (.cells #[.int .i64 n, l, u, o] 134 (0, 0))
section
variable {w w' : World} {b : Nat} {n : Int} {l u o : Value}
theorem SysAt.lt (h : SysAt w b n l u o) : b < w.heap.size := (Array.getElem?_eq_some_iff.1 h).1
theorem SysAt.below (h : SysAt w b n l u o) (hb : Below w.heap.size w w') : SysAt w' b n l u o := (hb.block b h.lt).trans h
theorem SysAt.c0 (h : SysAt w b n l u o) : w.cell? ⟨b, 0, none⟩ = some (.int .i64 n) := by unfold SysAt at h; simp [World.cell?, h]
theorem SysAt.c1 (h : SysAt w b n l u o) : w.cell? ⟨b, 1, none⟩ = some l := by unfold SysAt at h; simp [World.cell?, h]
theorem SysAt.c2 (h : SysAt w b n l u o) : w.cell? ⟨b, 2, none⟩ = some u := by unfold SysAt at h; simp [World.cell?, h]
theorem SysAt.c3 (h : SysAt w b n l u o) : w.cell? ⟨b, 3, none⟩ = some o := by unfold SysAt at h; simp [World.cell?, h]
theorem SysAt.fr (h : SysAt w b n l u o) (j : Nat) : w.frozen? ⟨b, j, none⟩ = false := by unfold SysAt at h; simp [World.frozen?, h]
theorem SysAt.set (h : SysAt w b n l u o) (n' : Int) (l' u' o' : Value) : SysAt ((((w.setCell ⟨b, 0, none⟩ (.int .i64 n')).setCell ⟨b, 1, none⟩ l').setCell ⟨b, 2, none⟩ u').setCell ⟨b, 3, none⟩ o') b n' l' u' o' := by
  unfold SysAt at *
  simp [World.setCell, Array.getElem?_modify, h]
end
theorem results_sys {fn : Func} {p q : Tmp} (h : fn.results = #[.cell p 134, .tmp q]) (tmps : Array Value) (w : World) (b : Nat) (n : Int) (l u o : Value) (hp : tmps.getD p undef = .pointer (some ⟨b, 0, none⟩)) (hs : SysAt w b n l u o) :
    (results fn tmps).run Try.prog w = .ok (.tuple #[.agg #[.int .i64 n, l, u, o], tmps.getD q undef]) w := by
  have c0 := hs.c0
  have c1 := hs.c1
  have c2 := hs.c2
  have c3 := hs.c3
  simp only [Array.getD_eq_getD_getElem?] at hp ⊢
  simp [results, h, hp, go_sem, c0, c1, c2, c3, Sem.run_bind, Result.andThen]
set_option maxRecDepth 100000 in
@[go_sem high] theorem run_field_mx (x y z : Value) (w : World) : (Instr.field 35 (.agg #[x, y, z]) 2).run Try.prog w = .ok z w := by rfl
def RetOpen (w : World) (n : Nat) (M : Nat → Nat → CV) (od : Nat → Nat) (E : Ending) (w' : World) : Prop := ∃ (lv uv ov : Value) (ll ul : List Z), E = .returned (.tuple #[.agg #[.int .i64 n, lv, uv, ov], .bool true]) ∧ Sl w' lv (ll.map C) ∧ Sl w' uv (ul.map C) ∧ Sl w' ov ((List.range n).map fun j => Value.int .i64 (od j : Int)) ∧ ll.map zv = partF n (lE M) n 0 ∧ ul.map zv = partF n (uE M) n 0 ∧ Below w.heap.size w w'
section
variable {w : World} {lb n : Nat} {M : Nat → Nat → CV} {od : Nat → Nat} {sg : Int}
set_option maxRecDepth 100000 in
set_option maxHeartbeats 4000000 in
theorem open_made (hn : n ≤ 64) (h : LoV w lb n M od sg) (hsg : sg = 1 ∨ sg = -1) : Calls Try.prog 79 #[.pointer (some ⟨lb, 0, none⟩)] w (RetOpen w n M od) := by
  have b1 : Below w.heap.size w (w.alloc (.cells #[.int .i64 0, .slice none 0 0, .slice none 0 0, .slice none 0 0] 134)) := bl_a _ _
  have S1 : SysAt (w.alloc (.cells #[.int .i64 0, .slice none 0 0, .slice none 0 0, .slice none 0 0] 134)) w.heap.size 0 (.slice none 0 0) (.slice none 0 0) (.slice none 0 0) := blk_new _ _
  have H1 := h.below b1
  have hs0 : ¬ sg = 0 := by omega
  have s1 : w.heap.size < (w.alloc (.cells #[.int .i64 0, .slice none 0 0, .slice none 0 0, .slice none 0 0] 134)).heap.size := by simp
  go_enter Try.func79, Try.ntmps79
  go_upto_region 1 with (fail)
  obtain ⟨w1, hw1⟩ : ∃ w1, w1 = w.alloc (.cells #[.int .i64 0, .slice none 0 0, .slice none 0 0, .slice none 0 0] 134) := ⟨_, rfl⟩
  rw [← hw1] at b1 S1 H1 s1 ⊢
  clear hw1 h
  have HI := hid (Sign_made H1)
  have HZ := hid (Size_made H1)
  have HL := hid (L_made hn H1)
  have HU := hid fun w' (hb : Below w1.heap.size w1 w') => U_made hn (H1.below hb)
  have HO := hid fun w' (hb : Below w1.heap.size w1 w') => Order_made hn (H1.below hb)
  go_upto_region 3 with (go_at_call 88; (with_reducible refine HI.out.mono ?_); rintro E1 w2 ⟨rfl, rfl⟩)
  clear HI
  go_wp2_with (first
    | (go_at_call 89; (with_reducible refine HZ.out.mono ?_); rintro E1 w2 ⟨rfl, rfl⟩)
    | (go_at_call 90; (with_reducible refine HL.out.mono ?_); rintro E3 w3 ⟨lv, ll, rfl, own3, hl3, hb3⟩; obtain ⟨la, lc, rfl, -⟩ := own_cap own3)
    | (go_at_call 91; (with_reducible refine (HU.out _ hb3).mono ?_); rintro E4 w4 ⟨uv, ul, rfl, own4, hl4, hb4⟩; obtain ⟨ua, uc, rfl, -⟩ := own_cap own4; have hb5 := bl2 hb3 hb4)
    | (go_at_call 92; (with_reducible refine (HO.out _ hb5).mono ?_); rintro E6 w6 ⟨ov, rfl, own6, hb6⟩; obtain ⟨oa, oc, rfl, -⟩ := own_cap own6; have hb7 := bl2 hb5 hb6; have S6 := S1.below hb7; have c0 := S6.c0; have c1 := S6.c1; have c2 := S6.c2; have c3 := S6.c3; have f0 := S6.fr 0; have f1 := S6.fr 1; have f2 := S6.fr 2; have f3 := S6.fr 3))
  have S7 := S6.set n (.slice la (n * n) lc) (.slice ua (n * n) uc) (.slice oa n oc)
  have e3 := own_setB (own_set3 (owns_below (owns_below own3 hb4) hb6) s1 (.int .i64 n) (.slice la (n * n) lc) (.slice ua (n * n) uc)) (a := ⟨w.heap.size, 3, none⟩) s1 (.slice oa n oc)
  have e4 := own_setB (own_set3 (owns_below own4 hb6) (Nat.lt_of_lt_of_le s1 hb3.size) (.int .i64 n) (.slice la (n * n) lc) (.slice ua (n * n) uc)) (a := ⟨w.heap.size, 3, none⟩) (Nat.lt_of_lt_of_le s1 hb3.size) (.slice oa n oc)
  have e6 := own_setB (own_set3 own6 (Nat.lt_of_lt_of_le s1 hb5.size) (.int .i64 n) (.slice la (n * n) lc) (.slice ua (n * n) uc)) (a := ⟨w.heap.size, 3, none⟩) (Nat.lt_of_lt_of_le s1 hb5.size) (.slice oa n oc)
  refine bodyPost_ret (results_sys rfl _ _ w.heap.size n _ _ _ rfl S7) rfl ?_
  exact ⟨_, _, _, ll, ul, rfl, Sl.of_owns e3, Sl.of_owns e4, Sl.of_owns e6, hl3, hl4, ((((bl2 b1 hb7).setCell (Nat.le_refl _) _).setCell (Nat.le_refl _) _).setCell (Nat.le_refl _) _).setCell (Nat.le_refl _) _⟩
end
end Go.Proofs.Ytgcakhmdmajplaa

namespace Go.Proofs.Ytgcakhmdmajplaa
open Go.RowKit

def wrF (n : Nat) (b : List CV) : Int := if b.length ≠ n then 4 else if b.all cfin = true then 0 else 5
/-- The unknowns and whether something was not finite. -/
abbrev SolS := (Nat → CV) × Bool
def setX (x : Nat → CV) (i : Nat) (v : CV) : Nat → CV := fun j => if j = i then v else x j
def fstepF (M : Nat → Nat → CV) (i k : Nat) (s : SolS) : SolS := (setX s.1 i (csub (s.1 i) (cmul (M i k) (s.1 k))), s.2 || !cfin (csub (s.1 i) (cmul (M i k) (s.1 k))))
def dstepF (M : Nat → Nat → CV) (i : Nat) (s : SolS) : SolS := (setX s.1 i (cdiv (s.1 i) (M i i)), s.2 || !cfin (cdiv (s.1 i) (M i i)))
def rowF (M : Nat → Nat → CV) (i : Nat) : Nat → Nat → SolS → SolS
  | 0, _, s => s
  | f + 1, k, s => rowF M i f (k + 1) (fstepF M i k s)
def fwdF (M : Nat → Nat → CV) (od : Nat → Nat) (b : Nat → CV) : Nat → Nat → SolS → SolS
  | 0, _, s => s
  | f + 1, i, s => fwdF M od b f (i + 1) (rowF M i i 0 (setX s.1 i (b (od i)), s.2))
def bwdF (n : Nat) (M : Nat → Nat → CV) : Nat → SolS → SolS
  | 0, s => s
  | i + 1, s => bwdF n M i (dstepF M i (rowF M i (n - (i + 1)) (i + 1) s))
/-- What solve.Solve tells. -/
def solF (n : Nat) (M : Nat → Nat → CV) (od : Nat → Nat) (b : List CV) : Int × (Nat → CV) :=
  if wrF n b ≠ 0 then (wrF n b, fun _ => (none, none)) else
    let s := bwdF n M n (fwdF M od (fun i => b.getD i (none, none)) n 0 (fun _ => (val 0, val 0), false))
    if s.2 = true then (6, s.1) else (0, s.1)
def RetErr (w : World) (e : Int) (E : Ending) (w' : World) : Prop := E = .returned (.int .i64 e) ∧ Below w.heap.size w w'
def RetLess (w : World) (lk : Nat) (ov : Bool) (z : CV) (E : Ending) (w' : World) : Prop := ∃ x y m, E = .returned (.complex .f64 x y) ∧ cv x y = z ∧ w' = (w.drewN m).setCell ⟨lk, 0, none⟩ (.bool (ov || !cfin z))
def WrLoop (w1 : World) (l : List Z) (i : Value) (wr : World) : Prop := ∃ (p nd : Nat), i = .int .i64 p ∧ p ≤ l.length ∧ wr = w1.drewN nd ∧ ∀ q z, q < p → l[q]? = some z → cfin (zv z) = true
set_option maxRecDepth 100000 in
set_option maxHeartbeats 4000000 in
theorem wrong_any (w : World) (n : Nat) (x y z : Value) (l : List Z) (v : Value) (hs : Sl w v (l.map C)) (hl : l.length ≤ 4096) : Calls Try.prog 80 #[.agg #[.int .i64 n, x, y, z], v] w (RetErr w (wrF n (l.map zv))) := by
  obtain ⟨G, hG⟩ : ∃ G, G = wrF n (l.map zv) := ⟨_, rfl⟩
  rw [← hG]
  replace hG := hid hG
  have b1 : Below w.heap.size w (w.alloc (.cells #[.int .i64 n, x, y, z] 134)) := bl_a _ _
  have S1 : SysAt (w.alloc (.cells #[.int .i64 n, x, y, z] 134)) w.heap.size n x y z := blk_new _ _
  have hs1 := hs.below b1
  obtain ⟨a, cap, rfl, -⟩ := hs.cz
  clear hs
  go_enter Try.func80, Try.ntmps80
  go_upto_region 1 with (fail)
  obtain ⟨w1, hw1⟩ : ∃ w1, w1 = w.alloc (.cells #[.int .i64 n, x, y, z] 134) := ⟨_, rfl⟩
  rw [← hw1] at b1 S1 hs1 ⊢
  clear hw1
  have c0 := S1.c0
  by_cases hn : l.length = n
  · subst hn
    go_wp2
    go_loopw [14] (fun i w' => WrLoop w1 l i w') (fun i _ => l.length + 1 - (intOf i).toNat)
    case atStart => exact ⟨0, 0, rfl, Nat.zero_le _, rfl, fun q z hq => absurd hq (Nat.not_lt_zero _)⟩
    case round =>
      obtain ⟨p, nd, rfl, hp, rfl, hfin⟩ := hrel
      clear c0 S1
      by_cases hpn : p < l.length
      · have g6 : (p : Int) < (l.length : Int) := by omega
        obtain ⟨t, hz⟩ : ∃ z, l[p]? = some z := ⟨l[p]'hpn, List.getElem?_eq_getElem hpn⟩
        obtain ⟨a', cap', e, hc⟩ := hs1.cz
        cases e
        obtain ⟨b, off, rfl, cz0⟩ := hc p t hz
        have cz : (w1.drewN nd).cell? ⟨b, off + p, none⟩ = some (.complex .f64 t.1 t.2) := cz0
        have HFi : Hid (∀ w, Calls Try.prog 61 #[.complex .f64 t.1 t.2] w (RetB w (cfin (zv t)))) := hid fun w => Finite_q t.1 t.2 (zv t) rfl w
        cases hcf : cfin (zv t) with
        | false =>
          have hGe := hid (show G = 5 by
            rw [hG.out]
            unfold wrF
            rw [if_neg (by simp), if_neg (fun h => by
              have h2 := List.all_eq_true.1 h (zv t) (List.mem_map.2 ⟨t, List.mem_of_getElem? hz, rfl⟩)
              rw [hcf] at h2
              cases h2)])
          rw [hcf] at HFi
          clear hc hz cz0 hfin hG hcf hs1
          go_wp2_with (first | (go_at_call 61; (with_reducible refine (HFi.out _).mono ?_); rintro E6 w6 ⟨rfl, ⟨n6, rfl⟩⟩))
          go_ret
          rw [hGe.out]
          exact ⟨rfl, below_drewN' b1 _⟩
        | true =>
          rw [hcf] at HFi
          have hfin2 : Hid (∀ q z, q < p + 1 → l[q]? = some z → cfin (zv z) = true) := hid (by
            intro q y hq hy
            rcases Nat.lt_or_ge q p with h | h
            · exact hfin q y h hy
            · obtain rfl : q = p := by omega
              rw [hz] at hy
              rw [← Option.some.inj hy]
              exact hcf)
          clear hc hz cz0 hfin hG hcf hs1
          go_wp2_with (first | (go_at_call 61; (with_reducible refine (HFi.out _).mono ?_); rintro E6 w6 ⟨rfl, ⟨n6, rfl⟩⟩))
          go_roundw
          case rel => exact ⟨p + 1, _, by go_num, hpn, rfl, hfin2.out⟩
          case measure => simp [intOf]; omega
      · obtain rfl : p = l.length := by omega
        have g6 : ¬ (l.length : Int) < (l.length : Int) := by omega
        have hGe := hid (show G = 0 by
          rw [hG.out]
          unfold wrF
          rw [if_neg (by simp), if_pos]
          rw [List.all_eq_true]
          intro x hx
          obtain ⟨z, hz, rfl⟩ := List.mem_map.1 hx
          obtain ⟨q, hq⟩ := List.getElem?_of_mem hz
          exact hfin q z (List.getElem?_eq_some_iff.1 hq).1 hq)
        clear hG hfin
        go_wp2
        go_ret
        rw [hGe.out]
        exact ⟨rfl, below_drewN' b1 _⟩
  · have g1 : ¬ (l.length : Int) = (n : Int) := by omega
    have hGe := hid (show G = 4 by
      rw [hG.out]
      unfold wrF
      rw [if_pos (by simpa using hn)])
    clear hG
    go_wp2
    go_ret
    rw [hGe.out]
    exact ⟨rfl, b1⟩
set_option maxRecDepth 100000 in
set_option maxHeartbeats 4000000 in
theorem less_any (w : World) (lk : Nat) (ov : Bool) (hc : w.cell? ⟨lk, 0, none⟩ = some (.bool ov)) (hf : w.frozen? ⟨lk, 0, none⟩ = false) (s1 s2 a1 a2 x1 x2 : Nat) (s a x : CV) (hs : cv s1 s2 = s) (ha : cv a1 a2 = a) (hx : cv x1 x2 = x) :
    Calls Try.prog 81 #[.pointer (some ⟨lk, 0, none⟩), .complex .f64 s1 s2, .complex .f64 a1 a2, .complex .f64 x1 x2] w (RetLess w lk ov (csub s (cmul a x))) := by
  have HM := hid fun w => Mul_z a1 a2 x1 x2 a x ha hx w
  have HS := hid fun p1 p2 (hp : cv p1 p2 = cmul a x) w => Sub_z s1 s2 p1 p2 s (cmul a x) hs hp w
  obtain ⟨z, hz⟩ : ∃ z, z = csub s (cmul a x) := ⟨_, rfl⟩
  rw [← hz]
  replace hz := hid hz
  clear hs ha hx
  cases ov
  all_goals
    go_enter Try.func81, Try.ntmps81
    go_wp2_with (first
      | (go_at_call 93; (with_reducible refine (HM.out _).mono ?_); rintro E1 w1 ⟨p1, p2, rfl, ⟨n1, rfl⟩, hp, -, -⟩; replace hp := hid hp)
      | (go_at_call 63; (with_reducible refine (HS.out _ _ hp.out _).mono ?_); rintro E2 w2 ⟨q1, q2, rfl, ⟨n2, rfl⟩, hq, -, -⟩; rw [← hz.out] at hq; have HF := hid fun w => Finite_q q1 q2 z hq w; replace hq := hid hq)
      | (go_at_call 61; (with_reducible refine (HF.out _).mono ?_); rintro E6 w6 ⟨rfl, ⟨n6, rfl⟩⟩))
    go_ret
    exact ⟨_, _, _, rfl, hq.out, by first | rfl | simp⟩
set_option maxRecDepth 100000 in
set_option maxHeartbeats 4000000 in
theorem by_any (w : World) (lk : Nat) (ov : Bool) (hc : w.cell? ⟨lk, 0, none⟩ = some (.bool ov)) (hf : w.frozen? ⟨lk, 0, none⟩ = false) (s1 s2 a1 a2 : Nat) (s a : CV) (hs : cv s1 s2 = s) (ha : cv a1 a2 = a) :
    Calls Try.prog 82 #[.pointer (some ⟨lk, 0, none⟩), .complex .f64 s1 s2, .complex .f64 a1 a2] w (RetLess w lk ov (cdiv s a)) := by
  have HM := hid fun w => Div_z s1 s2 a1 a2 s a hs ha w
  obtain ⟨z, hz⟩ : ∃ z, z = cdiv s a := ⟨_, rfl⟩
  rw [← hz] at HM ⊢
  clear hs ha hz
  cases ov
  all_goals
    go_enter Try.func82, Try.ntmps82
    go_wp2_with (first
      | (go_at_call 94; (with_reducible refine (HM.out _).mono ?_); rintro E2 w2 ⟨q1, q2, rfl, ⟨n2, rfl⟩, hq, -, -⟩; have HF := hid fun w => Finite_q q1 q2 z hq w; replace hq := hid hq)
      | (go_at_call 61; (with_reducible refine (HF.out _).mono ?_); rintro E6 w6 ⟨rfl, ⟨n6, rfl⟩⟩))
    go_ret
    exact ⟨_, _, _, rfl, hq.out, by first | rfl | simp⟩
end Go.Proofs.Ytgcakhmdmajplaa

namespace Go.Proofs.Ytgcakhmdmajplaa
open Go.RowKit

theorem flatG_len {α : Type} (f : Nat → List α) (m : Nat) (hm : ∀ j, (f j).length = m) : ∀ k, ((List.range k).flatMap f).length = k * m := by
  intro k
  induction k with
  | zero => simp
  | succ k ih => rw [List.range_succ, List.flatMap_append, List.length_append, ih]; simp [hm, Nat.succ_mul]
theorem flatG_get {α : Type} (f : Nat → List α) (m : Nat) (hm : ∀ j, (f j).length = m) : ∀ (k j t : Nat), j < k → t < m → ((List.range k).flatMap f)[j * m + t]? = (f j)[t]? := by
  intro k
  induction k with
  | zero => intro j t hj; omega
  | succ k ih =>
    intro j t hj ht
    rw [List.range_succ, List.flatMap_append]
    by_cases hjk : j < k
    · have h1 : j * m + t < k * m := by
        have : (j + 1) * m ≤ k * m := Nat.mul_le_mul_right m hjk
        rw [Nat.succ_mul] at this
        omega
      rw [List.getElem?_append_left (by rw [flatG_len f m hm]; exact h1)]
      exact ih j t hjk ht
    · obtain rfl : j = k := by omega
      rw [List.getElem?_append_right (by rw [flatG_len f m hm]; omega), flatG_len f m hm]
      simp
theorem partF_get {n : Nat} {F : Nat → Nat → CV} {l : List Z} (h : l.map zv = partF n F n 0) {i k : Nat} (hi : i < n) (hk : k < n) : ∃ z, l[i * n + k]? = some z ∧ cv z.1 z.2 = F i k := by
  have h2 : (l.map zv)[i * n + k]? = some (F i k) := by
    rw [h]
    unfold partF
    rw [List.range_zero, List.map_nil, List.append_nil, flatG_get _ n (by simp) n i k hi hk]
    simp [hk]
  rw [List.getElem?_map] at h2
  obtain ⟨z, hz, e⟩ := Option.map_eq_some_iff.1 h2
  exact ⟨z, hz, e⟩
/-- A list of unknowns. -/
def XsV (xs : List Z) (n : Nat) (x : Nat → CV) : Prop := xs.length = n ∧ ∀ j, j < n → ∃ z, xs[j]? = some z ∧ cv z.1 z.2 = x j
theorem XsV.set {xs : List Z} {n : Nat} {x : Nat → CV} (h : XsV xs n x) (i : Nat) (z : Z) : XsV (xs.set i z) n (setX x i (cv z.1 z.2)) := by
  refine ⟨by rw [List.length_set]; exact h.1, fun j hj => ?_⟩
  unfold setX
  by_cases hji : j = i
  · subst hji
    rw [if_pos rfl]
    exact ⟨z, List.getElem?_set_self (by rw [h.1]; exact hj), rfl⟩
  · rw [if_neg hji, List.getElem?_set_ne (Ne.symm hji)]
    exact h.2 j hj
theorem XsV.zero (n : Nat) : XsV (List.replicate n ((0, 0) : Z)) n (fun _ => (val 0, val 0)) := ⟨by simp, fun j hj => ⟨(0, 0), by simp [hj], rfl⟩⟩
theorem XsV.map {xs : List Z} {n : Nat} {x : Nat → CV} (h : XsV xs n x) : xs.map zv = (List.range n).map x := by
  refine List.ext_getElem? fun j => ?_
  rcases Nat.lt_or_ge j n with hj | hj
  · obtain ⟨z, hz, e⟩ := h.2 j hj
    rw [List.getElem?_map, hz, List.getElem?_map, List.getElem?_range hj]
    exact congrArg some e
  · rw [List.getElem?_eq_none (by rw [List.length_map, h.1]; exact hj), List.getElem?_eq_none (by simp; exact hj)]
/-- All but one block is as it was. -/
def Exc (b : Nat) (w w' : World) : Prop := ∀ p : Addr, p.block ≠ b → w'.cell? p = w.cell? p
theorem exc_ok (b : Nat) : RelOk (Exc b) := ⟨fun _ _ _ => rfl, fun h h2 p hp => (h2 p hp).trans (h p hp)⟩
theorem exc_set (w : World) (m b j : Nat) (v : Value) : Exc b w ((w.drewN m).setCell ⟨b, j, none⟩ v) := by
  intro p hp
  have hne : b ≠ p.block := Ne.symm hp
  simp [World.cell?, World.setCell, Array.getElem?_modify, hne, World.drewN]
/-- What the walk of Solve keeps. -/
def SolvS (W : World) (n : Nat) (s : SolS) (w : World) : Prop := ∃ (ρ : Nat → Rw) (xs : List Z), RS W.heap.size ρ w ∧ ρ 0 = ⟨44, 1, .slice (some ⟨W.heap.size + 1, 0, none⟩) n n, n, xs.map C⟩ ∧ ρ 1 = ⟨140, 1, .slice (some ⟨W.heap.size, 0, none⟩) 1 1, 1, [.bool s.2]⟩ ∧ XsV xs n s.1 ∧ Below W.heap.size W w
section
variable {W w : World} {n : Nat} {s : SolS}
theorem SolvS.x (h : SolvS W n s w) {j : Nat} (hj : j < n) : ∃ z : Z, w.cell? ⟨W.heap.size + 1, j, none⟩ = some (.complex .f64 z.1 z.2) ∧ cv z.1 z.2 = s.1 j := by
  obtain ⟨ρ, xs, R, r0, r1, hx, hb⟩ := h
  obtain ⟨z, hz, e⟩ := hx.2 j hj
  exact ⟨z, R.cell r0 (by rw [List.getElem?_map, hz]; rfl), e⟩
theorem SolvS.xf (h : SolvS W n s w) (j : Nat) : w.frozen? ⟨W.heap.size + 1, j, none⟩ = false := by
  obtain ⟨ρ, xs, R, r0, r1, hx, hb⟩ := h
  exact R.fr r0 j
theorem SolvS.l (h : SolvS W n s w) : w.cell? ⟨W.heap.size, 0, none⟩ = some (.bool s.2) := by
  obtain ⟨ρ, xs, R, r0, r1, hx, hb⟩ := h
  exact R.cell r1 (j := 0) rfl
theorem SolvS.lf (h : SolvS W n s w) : w.frozen? ⟨W.heap.size, 0, none⟩ = false := by
  obtain ⟨ρ, xs, R, r0, r1, hx, hb⟩ := h
  exact R.fr r1 0
theorem SolvS.b (h : SolvS W n s w) : Below W.heap.size W w := by
  obtain ⟨ρ, xs, R, r0, r1, hx, hb⟩ := h
  exact hb
theorem SolvS.drewN (h : SolvS W n s w) (m : Nat) : SolvS W n s (w.drewN m) := by
  obtain ⟨ρ, xs, R, r0, r1, hx, hb⟩ := h
  exact ⟨ρ, xs, R.drewN m, r0, r1, hx, below_drewN' hb m⟩
theorem SolvS.setx (h : SolvS W n s w) (i : Nat) (z : Z) : SolvS W n (setX s.1 i (cv z.1 z.2), s.2) (w.setCell ⟨W.heap.size + 1, i, none⟩ (.complex .f64 z.1 z.2)) := by
  obtain ⟨ρ, xs, R, r0, r1, hx, hb⟩ := h
  refine ⟨_, xs.set i z, R.store r0 i (.complex .f64 z.1 z.2), ?_, (upd_ne _ _ (by decide)).trans r1, hx.set i z, hb.setCell (Nat.le_succ _) _⟩
  rw [upd_same, List.map_set]
  rfl
theorem SolvS.setl (h : SolvS W n s w) (o : Bool) : SolvS W n (s.1, o) (w.setCell ⟨W.heap.size, 0, none⟩ (.bool o)) := by
  obtain ⟨ρ, xs, R, r0, r1, hx, hb⟩ := h
  exact ⟨_, xs, R.store r1 0 (.bool o), (upd_ne _ _ (by decide)).trans r0, (upd_same _ _ _).trans rfl, hx, hb.setCell (Nat.le_refl _) _⟩
/-- A step: the flag, then the unknown. -/
theorem SolvS.step (h : SolvS W n s w) (m i : Nat) (x y : Nat) (z : CV) (hz : cv x y = z) : SolvS W n (setX s.1 i z, s.2 || !cfin z) (((w.drewN m).setCell ⟨W.heap.size, 0, none⟩ (.bool (s.2 || !cfin z))).setCell ⟨W.heap.size + 1, i, none⟩ (.complex .f64 x y)) := by
  have h1 := ((h.drewN m).setl (s.2 || !cfin z)).setx i (x, y)
  rw [← hz] at h1 ⊢
  exact h1
end
/-- The order stays within the rows. -/
theorem stepF_od {n : Nat} {M : Nat → Nat → CV} {od : Nat → Nat} {sg : Int} {k : Nat} (hk : k < n) (hn : n ≤ 64) (h : ∀ i, i < n → od i < n) : ∀ i, i < n → (stepF n M od sg k).2.2.1 i < n := by
  intro i hi
  unfold stepF
  dsimp only
  split
  · exact h i hi
  · rename_i hr
    obtain ⟨p, hp, hpn⟩ := choF_pick (l := colF n M k) (k := k) (by unfold colF; simp; omega) (by unfold colF; simp; omega) (by simpa using hr)
    replace hpn : p < n := by unfold colF at hpn; simpa using hpn
    dsimp only
    rw [hp]
    exact h _ (swapN_lt hk (by simpa using hpn) hi)
end Go.Proofs.Ytgcakhmdmajplaa
