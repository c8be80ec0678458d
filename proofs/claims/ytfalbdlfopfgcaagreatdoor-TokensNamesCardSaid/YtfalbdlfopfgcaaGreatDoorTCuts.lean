/- A text cut into words, line by line: the program and the reference. Condition: a text is no longer than a text can be. -/
import Derived.Test.YtfalbdlfopfgcaaGreatDoorTGrid
namespace Go.Proofs.YtfalbdlfopfgcaaGreatDoor
open Go.RowKit

def cutFrom : Nat → List (List UInt8) → Option (Int × Nat)
  | _, [] => none
  | i, l :: r => if errW l = 0 then cutFrom (i + 1) r else some (errW l, i)
/-- What a text is cut into: the rows, the error, its place. -/
def cutOut (s : List UInt8) : List (List Tok) × Int × Int :=
  if 65536 < s.length then ([], 3, -1) else match cutFrom 0 (lines s) with
  | none => ((lines s).mapIdx rowT, 0, 0)
  | some (e, i) => ([], e, i)
theorem cutFrom_app {D : List (List UInt8)} (h : ∀ l ∈ D, errW l = 0) : ∀ (i : Nat) (L : List (List UInt8)), cutFrom i (D ++ L) = cutFrom (i + D.length) L := by
  induction D with
  | nil => intro i L; simp
  | cons l D ih =>
    intro i L
    rw [List.cons_append, cutFrom, if_pos (h l (.head _)), ih (fun x hx => h x (.tail _ hx))]
    congr 1
    simp
    omega
theorem linesFrom_sub {r : List UInt8} : ∀ {cur : List UInt8}, ∀ l ∈ linesFrom cur r, l.length ≤ cur.length + r.length := by
  induction r with
  | nil =>
    intro cur l hl
    rw [linesFrom] at hl
    split at hl
    · cases hl
    · simp at hl; subst hl; simp
  | cons c r ih =>
    intro cur l hl
    rw [linesFrom] at hl
    split at hl
    · rcases List.mem_cons.1 hl with rfl | h
      · simp
      · have := ih (cur := []) l h; simp at this ⊢; omega
    · have := ih (cur := cur ++ [c]) l hl; simp at this ⊢; omega
theorem lines_sub {s l : List UInt8} (h : l ∈ lines s) : l.length ≤ s.length := by
  have := linesFrom_sub (cur := []) l h
  simpa using this
theorem linesFrom_count {r : List UInt8} : ∀ {cur : List UInt8}, (linesFrom cur r).length ≤ r.length + 1 := by
  induction r with
  | nil => intro cur; rw [linesFrom]; split <;> simp
  | cons c r ih =>
    intro cur
    rw [linesFrom]
    split
    · have := ih (cur := []); simp at this ⊢; omega
    · have := ih (cur := cur ++ [c]); simp at this ⊢; omega
theorem lines_count (s : List UInt8) : (lines s).length ≤ s.length + 1 := linesFrom_count

def RetCut (w : World) (s : List UInt8) (e : Ending) (w' : World) : Prop := ∃ V vs, e = .returned (.tuple #[V, .agg #[.int .i64 (cutOut s).2.1, .int .i64 (cutOut s).2.2]]) ∧ Grid w' w.heap.size V (cutOut s).1 vs ∧ Below w.heap.size w w'

theorem info_fault : (Tryz.prog.info? 25).map (fun i => (i.zero, i.size)) = some (some (.agg #[.int .i64 0, .int .i64 0]), 2) := by kernel_rfl

/-- The told cell for the fault. -/
def FaultAt (w : World) (b : Nat) (x y : Int) : Prop := w.heap[b]? = some (.cells #[.int .i64 x, .int .i64 y] 25 (0, 0))
theorem FaultAt.c0 {w : World} {b : Nat} {x y : Int} (h : FaultAt w b x y) : w.cell? ⟨b, 0, none⟩ = some (.int .i64 x) := by
  unfold FaultAt at h; simp [World.cell?, h]
theorem FaultAt.c1 {w : World} {b : Nat} {x y : Int} (h : FaultAt w b x y) : w.cell? ⟨b, 1, none⟩ = some (.int .i64 y) := by
  unfold FaultAt at h; simp [World.cell?, h]
theorem FaultAt.fr {w : World} {b : Nat} {x y : Int} (h : FaultAt w b x y) (j : Nat) : w.frozen? ⟨b, j, none⟩ = false := by
  unfold FaultAt at h; simp [World.frozen?, h]

theorem FaultAt.new (w : World) (x y : Int) : FaultAt (w.alloc (.cells #[.int .i64 x, .int .i64 y] 25)) w.heap.size x y := by
  show (w.heap.push _)[w.heap.size]? = _
  simp
theorem FaultAt.set2 {w : World} {b : Nat} {x y : Int} (h : FaultAt w b x y) (x' y' : Int) : FaultAt ((w.setCell ⟨b, 0, none⟩ (.int .i64 x')).setCell ⟨b, 1, none⟩ (.int .i64 y')) b x' y' := by
  unfold FaultAt at *
  simp [World.setCell, Array.getElem?_modify, h]
theorem FaultAt.below {w w' : World} {b : Nat} {x y : Int} (h : FaultAt w b x y) (hb : Below (b + 1) w w') : FaultAt w' b x y := by
  unfold FaultAt at *
  rw [hb.block b (by omega), h]
theorem blk_set (w : World) (a : Addr) (v : Value) (k : Nat) (h : k ≠ a.block) : (w.setCell a v).heap[k]? = w.heap[k]? := by
  simp only [World.setCell, Array.getElem?_modify]
  rw [if_neg (by omega)]
theorem Grid.set2 {w : World} {b B : Nat} {V : Value} {rows : List (List Tok)} {vs : List Value} (h : Grid w B V rows vs) (hB : b < B) (x' y' : Value) : Grid ((w.setCell ⟨b, 0, none⟩ x').setCell ⟨b, 1, none⟩ y') B V rows vs :=
  h.kept fun g h1 _ => by rw [blk_set _ _ _ _ (by simp; omega), blk_set _ _ _ _ (by simp; omega)]
theorem below_set2 {B : Nat} {w w' : World} {b : Nat} (h : Below B w w') (x' y' : Value) (hb : B ≤ b := by omega) : Below B w ((w'.setCell ⟨b, 0, none⟩ x').setCell ⟨b, 1, none⟩ y') :=
  (h.setCell hb _).setCell hb _
theorem below_mono {B B' : Nat} {w w' : World} (h : Below B w w') (hb : B' ≤ B) : Below B' w w' := ⟨h.os, h.tape, h.output, h.size, fun k hk => h.block k (by omega)⟩
theorem mk_list (l : List UInt8) : (mk l).toList = l := by rw [ByteArray.toList_eq]; rfl
theorem results_fault {fn : Func} {t p : Tmp} (h : fn.results = #[.tmp t, .cell p 25]) (tmps : Array Value) (w : World) (b : Nat) (x y : Int) (hp : tmps.getD p undef = .pointer (some ⟨b, 0, none⟩)) (hf : FaultAt w b x y) :
    (results fn tmps).run Tryz.prog w = .ok (.tuple #[tmps.getD t undef, .agg #[.int .i64 x, .int .i64 y]]) w := by
  have h0 := hf.c0
  have h1 := hf.c1
  simp only [Array.getD_eq_getD_getElem?] at hp ⊢
  simp [results, h, hp, go_sem, h0, h1, Sem.run_bind, Result.andThen]

theorem lines_step {r : List UInt8} (hr : r ≠ []) : ∃ a b f, lines r = a :: lines b ∧ b.length < r.length ∧ a.length ≤ r.length ∧ ∀ w, r.length ≤ 65536 → Calls Tryz.prog 32 #[.string (mk r), .string ⟨#[10]⟩] w (RetCutS w a b f) := by
  rcases index_cut r with ⟨h1, _⟩ | ⟨a, b, rfl, h1, _⟩
  · exact ⟨r, [], false, by rw [lines_no h1 hr]; rfl, List.length_pos_iff.2 hr, Nat.le_refl _, fun w _ => sCut_no r w h1⟩
  · exact ⟨a, b, true, lines_cut h1, by simp; omega, by simp, fun w h => sCut_at a b w h h1⟩

/-- What a function on a line hands back. -/
def RetR (w : World) (r : List Tok) (err : Int) (e : Ending) (w' : World) : Prop := ∃ ad n cap, e = .returned (.tuple #[.slice ad n cap, .int .i64 err]) ∧ w'.ownsRow w.heap.size 33 3 (.slice ad n cap) r.length (cellsOf r) ∧ Below w.heap.size w w'
theorem retR_of {w : World} {i : Nat} {a : List UInt8} {e : Ending} {w' : World} (h : RetW w (wordsW a).length (toks (mk a) i (wordsW a)) (errW a) e w') : RetR w (rowT i a) (errW a) e w' := by
  obtain ⟨v, h1, h2, h3⟩ := h
  rw [rowT_cells, ← rowT_len i a] at h2
  have h4 := h2.2
  rcases h4 with ⟨rfl, _⟩ | ⟨g, cap, cur, rfl, _⟩
  · exact ⟨_, _, _, h1, h2, h3⟩
  · exact ⟨_, _, _, h1, h2, h3⟩
theorem cutR_any (a : List UInt8) (i : Nat) (w : World) (h : a.length ≤ 65536) : Calls Tryz.prog 33 #[.string (mk a), .int .i64 i] w (RetR w (rowT i a) (errW a)) :=
  (cut_any (mk a) i w h).mono fun _ _ h => retR_of h
def strLen : Value → Nat
  | .string b => b.size
  | _ => 0

def CutsLoop (w : World) (s : List UInt8) (rest out line : Value) (wr : World) : Prop := ∃ (D : List (List UInt8)) (r : List UInt8) (vs : List Value), rest = .string (mk r) ∧ D ++ lines r = lines s ∧ line = .int .i64 D.length ∧ (∀ l ∈ D, errW l = 0) ∧
  D.length + r.length ≤ s.length ∧ Grid wr (w.heap.size + 1) out (D.mapIdx rowT) vs ∧ FaultAt wr w.heap.size 0 0 ∧ w.heap.size + 1 ≤ wr.heap.size ∧ Below w.heap.size w wr

set_option maxRecDepth 100000 in
set_option maxHeartbeats 1000000 in
theorem Cut_any (s : List UInt8) (w : World) (_hm : s.length ≤ maxLen) : Calls Tryz.prog 7 #[.string (mk s)] w (RetCut w s) := by
  by_cases hl : 65536 < s.length
  · have hsz : (mk s).size = s.length := rfl
    have hc : cutOut s = ([], 3, -1) := by unfold cutOut; rw [if_pos hl]
    have HC := hid hc
    clear hc
    generalize mk s = t at *
    go_enter Tryz.func7, Tryz.ntmps7
    go_wp2
    refine bodyPost_ret (results_fault rfl _ _ w.heap.size 3 (-1) rfl (FaultAt.new _ _ _)) rfl ?_
    unfold RetCut
    rw [HC.out]
    exact ⟨_, [], rfl, Grid.nil _ _, (Below.refl _ _).alloc (Nat.le_refl _) _⟩
  · have hl' : s.length ≤ 65536 := by omega
    have hsz : (mk s).size = s.length := rfl
    obtain ⟨t, ht⟩ : ∃ t, mk s = t := ⟨_, rfl⟩
    have HT := hid ht
    rw [ht] at hsz ⊢
    clear ht
    go_enter Tryz.func7, Tryz.ntmps7
    go_wp2
    go_loopw [0, 4, 5] (CutsLoop w s) (fun rest _ _ _ => strLen rest)
    case atStart => exact ⟨[], s, [], by rw [HT.out], rfl, rfl, by simp, by simp, Grid.nil _ _, FaultAt.new _ _ _, by simp, (Below.refl _ _).alloc (Nat.le_refl _) _⟩
    case round =>
      obtain ⟨D, r, vs, rfl, hl2, rfl, hD, hlen, hG, hF, hz, hb⟩ := hrel
      have HD := hid hD
      have HL := hid hl2
      have hc0 := hF.c0
      have hc1 := hF.c1
      have hf0 := hF.fr 0
      have hf1 := hF.fr 1
      have hrs : (mk r).size = r.length := rfl
      clear hD hl2
      cases r with
      | nil =>
        have hemp : (mk []).toList.isEmpty = true := by rw [mk_list]; rfl
        have hDD : lines s = D := by rw [← HL.out]; simp [lines, linesFrom]
        have hcut : cutOut s = (D.mapIdx rowT, 0, 0) := by
          unfold cutOut
          rw [if_neg hl, hDD]
          have := cutFrom_app (D := D) HD.out 0 []
          rw [List.append_nil] at this
          rw [this]
          rfl
        have HC := hid hcut
        clear hcut hDD
        generalize mk [] = rt at *
        go_wp2
        refine bodyPost_ret (results_fault rfl _ _ w.heap.size 0 0 rfl (hF.set2 0 0)) rfl ?_
        unfold RetCut
        rw [HC.out]
        exact ⟨_, vs, rfl, (hG.set2 (by omega) _ _).mono (by omega), below_set2 hb _ _⟩
      | cons c r' =>
        have hemp : (mk (c :: r')).toList.isEmpty = false := by rw [mk_list]; rfl
        obtain ⟨a, b, f, ha1, ha2, ha3, hcall⟩ := lines_step (r := c :: r') (by simp)
        have hrl : (c :: r').length ≤ 65536 := by omega
        have HA := hid ha1
        have HCL := hid hcall
        clear ha1 hcall
        obtain ⟨rl, hrl2⟩ : ∃ rl, rl = (c :: r').length := ⟨_, rfl⟩
        obtain ⟨rt, hrt⟩ : ∃ rt, rt = mk (c :: r') := ⟨_, rfl⟩
        rw [← hrt] at hemp hrs HCL ⊢
        rw [← hrl2] at hlen hrl hrs ha2 ha3
        have HRT := hid hrt
        have HRL := hid hrl2
        clear hrt hrl2
        by_cases herr : errW a = 0
        · go_wp2_with (first | (go_at_call 32; refine (HCL.out _ (by rw [← HRL.out]; exact hrl)).mono ?_; rintro e w' ⟨⟨n, rfl⟩, rfl⟩) | (go_at_call 33; refine (cutR_any a D.length _ (by omega)).mono ?_; rintro e w2 ⟨ad, sn, cap, rfl, hv, hvb⟩) | (at_builtin; refine wpList_appG rfl _ _ 22 rfl Tryz.underlying22 (wr.drewN n) (w.heap.size + 1) u4 _ vs (hG.drewN n) hz hvb (.slice ad sn cap) (rowT D.length a) hv rfl rfl rfl (by simp; omega) ?_; intro V' w' hG' hb' hz'))
          go_roundw
          case rel => exact ⟨D ++ [a], b, vs ++ [_], rfl, by rw [← HL.out, HA.out]; simp, by simp, by (intro l hl; rcases List.mem_append.1 hl with h | h; exact HD.out l h; rw [List.mem_singleton.1 h]; exact herr), by simp; omega, by simpa [List.mapIdx_append] using hG', hF.below (below_of_drewN hb'), by (simp at hvb; have := hvb.size; simp at this; omega), hb.trans (below_mono (below_of_drewN hb') (by omega))⟩
          case measure => simp only [strLen, mk_size, hrs]; exact ha2
        · have herr' : (errW a == 0) = false := by simpa using herr
          have hcut : cutOut s = ([], errW a, (D.length : Int)) := by
            unfold cutOut
            rw [if_neg hl, ← HL.out, HA.out, cutFrom_app HD.out, cutFrom, if_neg herr]
            simp
          have HC := hid hcut
          have HR := hid (fun w => cutR_any a D.length w)
          clear hcut herr
          generalize errW a = ev at *
          go_wp2_with (first | (go_at_call 32; refine (HCL.out _ (by rw [← HRL.out]; exact hrl)).mono ?_; rintro e w' ⟨⟨n, rfl⟩, rfl⟩) | (go_at_call 33; refine (HR.out _ (by omega)).mono ?_; rintro e w2 ⟨ad, sn, cap, rfl, hv, hvb⟩; have hF2 : FaultAt w2 w.heap.size 0 0 := hF.below (below_mono (below_of_drewN hvb) hz); have hd0 := hF2.c0; have hd1 := hF2.c1; have hg0 := hF2.fr 0; have hg1 := hF2.fr 1; clear hc0 hc1 hf0 hf1))
          refine bodyPost_ret (results_fault rfl _ _ w.heap.size ev D.length rfl (hF2.set2 _ _)) rfl ?_
          unfold RetCut
          rw [HC.out]
          exact ⟨_, [], rfl, Grid.nil _ _, below_set2 (hb.trans (below_mono (below_of_drewN hvb) (by simp; omega))) _ _⟩

theorem cutOut_small (s : List UInt8) : ∀ r ∈ (cutOut s).1, r.length ≤ 100000 := by
  intro r hr
  unfold cutOut at hr
  split at hr
  · cases hr
  · rename_i hl
    split at hr
    · simp only [List.mem_mapIdx] at hr
      obtain ⟨i, hi, rfl⟩ := hr
      rw [rowT_len]
      have h1 := wordsW_len (lines s)[i]
      have h2 := lines_sub (List.getElem_mem hi)
      omega
    · cases hr
end Go.Proofs.YtfalbdlfopfgcaaGreatDoor

