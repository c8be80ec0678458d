/- lower.start: a matrix's rows, in memory of their own. Condition: the matrix is square, at most 64 rows. -/
import Derived.Test.YtgcakhmdmajplaaTlA
import Derived.Test.YtgcakhmdmajplaaFlM
import Derived.Test.YtgcakhmdmajplaaNRowsM
import Derived.Laws.CopyOwn
namespace Go.Proofs.Ytgcakhmdmajplaa
open Go.RowKit

/-- The row k of a square matrix's numbers. -/
def rowZ (l : List Z) (n k : Nat) : List Z := (l.drop (k * n)).take n
theorem rowZ_len {l : List Z} {n k : Nat} (h : l.length = n * n) (hk : k < n) : (rowZ l n k).length = n := by
  unfold rowZ
  rw [List.length_take, List.length_drop, h]
  have : (k + 1) * n ≤ n * n := Nat.mul_le_mul_right n hk
  rw [Nat.succ_mul] at this
  omega
theorem made_z (n : Nat) (hn : n ≤ 64) (w : World) : (Instr.makeSlice 33 (.int .i64 n) (.int .i64 n)).run Try.prog w = .ok (.slice (some ⟨w.heap.size, 0, none⟩) n n) (w.alloc (.cells (Array.replicate n (Value.complex .f64 0 0)) 44)) := by
  have hi : (Try.prog.info? 44).map (fun i => (i.zero, i.size, i.bytes)) = some (some (.complex .f64 0 0), 1, 16) := by kernel_rfl
  have h := run_make_row' (P := Try.prog) 33 44 (.complex .f64 0 0) 16 Try.underlying33 hi rfl .i64 .i64 n (by omega) (by omega) w
  have e : (Array.replicate n (Value.complex .f64 0 0)) = madeCells #[.complex .f64 0 0] n := by
    apply Array.ext'
    rw [toList_madeCells_one]
    simp
  rw [e]
  exact h
theorem splice_all {α : Type} {L cs : List α} (h : cs.length = L.length) : splice L 0 cs = cs := by
  simp [splice, h]
theorem run_mulN {P : Program} (t : TypeId) (m n p : Nat) (hp : IntKind.i64.wrap ((m : Int) * (n : Int)) = (p : Int)) (w : World) : (binOp .mul t (.int .i64 m) (.int .i64 n)).run P w = .ok (.int .i64 p) w := by
  simp [go_sem, Op.intArith, hp]
/-- A product, told. -/
theorem wpList_mulN {P : Program} {ops : Array Oper} {rest : List Oper} {o : Oper} {a : Act} {Q : Exit → Act → World → Prop} {w : World} (hgd : o.guard = none) (x y : Operand) (t ty : TypeId) (hop : o.op = .binOp .mul t x y ty) (m n p : Nat) (hx : a.eval x = .int .i64 m) (hy : a.eval y = .int .i64 n) (hp : IntKind.i64.wrap ((m : Int) * (n : Int)) = (p : Int)) (h : wpList P ops Q rest (a.put o.dst (.int .i64 p)) w) : wpList P ops Q (o :: rest) a w := by
  refine wpList_plain hgd fun K hK => ?_
  have hrun := run_mulN (P := P) t m n p hp w
  unfold Oper.wp
  simp [execOp, hop, hx, hy, eqGuard_mul, hrun, Result.andThen]
  exact hK _ _ h
theorem run_slice_lo (bd off n cap p : Nat) (hp : p ≤ n) (hpc : p < cap) (w : World) : (Instr.sliceAt 33 (.slice (some ⟨bd, off, none⟩) n cap) (some (.int .i64 p)) none none).run Try.prog w = .ok (.slice (some ⟨bd, off + p, none⟩) (n - p) (cap - p)) w := by
  have ht : Try.prog.underlying 33 = some (.slice (Try.prog.elem 33)) := by kernel_rfl
  have hsz : (sizeOf (Try.prog.elem 33)).run Try.prog w = .ok 1 w := by kernel_rfl
  have hne : ¬ cap = p := by omega
  rw [run_sliceAt_slice w _ _ _ _ _ ht, run_slice_l w _ _ _ _ ht _ _ (by omega) (by omega), hsz]
  simp [Result.andThen, sliced, hne, Go.WideShapes.add_plain]
/-- 's[p:]' of numbers. -/
theorem wpList_slice_lo {ops : Array Oper} {rest : List Oper} {o : Oper} {a : Act} {Q : Exit → Act → World → Prop} {w : World} (hgd : o.guard = none) (x lo : Operand) (hop : o.op = .slice 33 x (some lo) none none) (bd off n cap p : Nat) (hx : a.eval x = .slice (some ⟨bd, off, none⟩) n cap) (hlo : a.eval lo = .int .i64 p) (hp : p ≤ n) (hpc : p < cap) (h : wpList Try.prog ops Q rest (a.put o.dst (.slice (some ⟨bd, off + p, none⟩) (n - p) (cap - p))) w) : wpList Try.prog ops Q (o :: rest) a w := by
  refine wpList_plain hgd fun K hK => ?_
  have hrun := run_slice_lo bd off n cap p hp hpc w
  unfold Oper.wp
  simp [execOp, hop, hx, hlo, hrun, Result.andThen]
  exact hK _ _ h
/-- 'copy(row, m.Data[i*m.Cols:])' into a row just made. -/
theorem wpList_copy_z {ops : Array Oper} {rest : List Oper} {o : Oper} {a : Act} {Q : Exit → Act → World → Prop} {w : World} (hgd : o.guard = none) (d s : Operand) (ho : o.op = .call { callee := .builtin .copy, args := #[d, s], argTypes := #[33, 33] }) (g bd offp n sLen sCap : Nat) (cs : List Value) (w0 : World) (hd : a.eval d = .slice (some ⟨g, 0, none⟩) n n) (hs : a.eval s = .slice (some ⟨bd, offp, none⟩) sLen sCap)
    (hg : w.heap[g]? = some (.cells (Array.replicate n (Value.complex .f64 0 0)) 44 (0, 0))) (hcs : cs.length = n) (hn64 : n ≤ 64) (hle : n ≤ sLen) (hsrc : ∀ j v, cs[j]? = some v → w.cell? ((⟨bd, offp, none⟩ : Addr).add j) = some v) (hone : ∀ v ∈ cs, v.oneCell' = true) (hB : Below g w0 w)
    (h : ∀ w', w'.ownsRow g 44 1 (.slice (some ⟨g, 0, none⟩) n n) n cs → Below g w0 w' → wpList Try.prog ops Q rest (a.put o.dst (goInt cs.length)) w') : wpList Try.prog ops Q (o :: rest) a w := by
  refine wpList_copy_splice hgd d s _ _ ho 44 Try.underlying33 (by kernel_rfl) (some ⟨g, 0, none⟩) (some ⟨bd, offp, none⟩) n n sLen sCap hd hs g 0 (List.replicate n (Value.complex .f64 0 0)) 44 (by rw [List.toArray_replicate]; exact hg) cs (by rw [hcs]; exact (Nat.min_eq_right hle).symm) (fun _ => ⟨rfl, _, rfl, hsrc⟩) (by simp [hcs]) hone g w0 hB (Nat.le_refl _) ?_
  intro w' h1 h2
  have h3 := h1.out
  rw [splice_all (by simp [hcs])] at h3
  refine h w' ⟨by omega, .inr ⟨g, n, cs.toArray, rfl, Nat.le_refl _, h3, Nat.le_refl _, by simp only [maxLen]; omega, by simp [hcs], ?_⟩⟩ h2
  exact List.take_of_length_le (by simp [hcs])
theorem cell_alq {w : World} {o : Obj} {a : Addr} {x : Value} (h : w.cell? a = some x) : (w.alloc o).cell? a = some x := (World.cell?_alloc_lt _ _ _ (World.block_lt_of_cell? w a h)).trans h
theorem info_cs2 : (Try.prog.info? 33).map (fun i => (i.zero, i.size, i.bytes)) = some (some (.slice none 0 0), 1, 24) := by kernel_rfl
/-- What lower.start and its steps keep: row 0: the rows; 1: the order; 2: the struct; 3: the matrix' box; 10 + i: the row i. -/
structure LoR (B : Nat) (ρ : Nat → Rw) (w : World) (lb n : Nat) (rv ov : Value) (sg : Int) (rw : Nat → Value) (od : Nat → Nat) (rs : Nat → List Z) (pi : Nat → Nat) (k : Nat) : Prop where
  own : RS B ρ w
  st : ρ 2 = ⟨149, 4, .slice (some ⟨lb, 0, none⟩) 1 1, 1, [.bool true, rv, ov, .int .i64 sg]⟩
  rows : ρ 0 = ⟨33, 1, rv, k, (List.range k).map fun j => rw (pi j)⟩
  order : ρ 1 = ⟨3, 1, ov, k, (List.range k).map fun j => Value.int .i64 (od j : Int)⟩
  row : ∀ i, i < k → ρ (10 + i) = ⟨44, 1, rw i, n, (rs i).map C⟩
theorem LoR.push {B : Nat} {ρ ρ' : Nat → Rw} {w w' : World} {lb n : Nat} {rv ov : Value} {sg : Int} {rw : Nat → Value} {rs : Nat → List Z} {k : Nat} (H : LoR B ρ w lb n rv ov sg rw id rs id k) (row rv' ov' : Value) (x : Rw)
    (e : ρ' = upd (upd (upd (upd (upd ρ (10 + k) ⟨44, 1, row, n, (rs k).map C⟩) 0 ⟨33, 1, rv', k + 1, (List.range k).map (fun j => rw (id j)) ++ [row]⟩) 2 x) 1 ⟨3, 1, ov', k + 1, (List.range k).map (fun j => Value.int .i64 ((id j : Nat) : Int)) ++ [.int .i64 k]⟩) 2 ⟨149, 4, .slice (some ⟨lb, 0, none⟩) 1 1, 1, [.bool true, rv', ov', .int .i64 sg]⟩)
    (R : RS B ρ' w') : LoR B ρ' w' lb n rv' ov' sg (fun j => if j = k then row else rw j) id rs id (k + 1) := by
  subst e
  refine ⟨R, upd_same _ _ _, ?_, ?_, fun i hi => ?_⟩
  · rw [upd_ne _ _ (by decide), upd_ne _ _ (by decide), upd_ne _ _ (by decide), upd_same, List.range_succ, List.map_append]
    congr 2
    · exact List.map_congr_left fun j hj => by simp [Nat.ne_of_lt (List.mem_range.1 hj)]
    · simp
  · rw [upd_ne _ _ (by decide), upd_same, List.range_succ, List.map_append]
    rfl
  · rw [upd_ne _ _ (by omega), upd_ne _ _ (by omega), upd_ne _ _ (by omega), upd_ne _ _ (by omega)]
    by_cases hik : i = k
    · subst hik
      rw [upd_same]
      simp
    · rw [upd_ne _ _ (by omega), H.row i (by omega)]
      simp [hik]
def StaLoop (W : World) (lb mb n : Nat) (l : List Z) (dv : Value) (i : Value) (wr : World) : Prop := ∃ (k : Nat) (ρ : Nat → Rw) (rv ov : Value) (rw : Nat → Value), i = .int .i64 k ∧ k ≤ n ∧ LoR W.heap.size ρ wr lb n rv ov 1 rw id (rowZ l n) id k ∧ ρ 3 = ⟨35, 3, .slice (some ⟨mb, 0, none⟩) 1 1, 1, [.int .i64 n, .int .i64 n, dv]⟩ ∧ Below W.heap.size W wr
set_option maxRecDepth 100000 in
set_option maxHeartbeats 4000000 in
theorem start_any (w : World) (n : Nat) (hn : n ≤ 64) (l : List Z) (hl : l.length = n * n) (dv : Value) (hs : Sl w dv (l.map C)) :
    Calls Try.prog 86 #[.agg #[.int .i64 n, .int .i64 n, dv]] w fun E w' => ∃ (lb : Nat) (ρ : Nat → Rw) (rv ov : Value) (rw : Nat → Value), E = .returned (.pointer (some ⟨lb, 0, none⟩)) ∧ LoR w.heap.size ρ w' lb n rv ov 1 rw id (rowZ l n) id n ∧ Below w.heap.size w w' := by
  obtain ⟨a, cap, rfl, hc⟩ := hs.cz
  have hcap : l.length ≤ cap := by
    obtain ⟨a', cap', e, _, _, h⟩ := hs
    injection e with _ _ e3
    rw [e3]
    simpa using h
  replace hl := hid hl
  have R0 : RS w.heap.size (fun i => Rw.nil (if i = 0 then 33 else if i = 1 then 3 else 44) 1) w := RS.start w.heap.size (fun i => (if i = 0 then 33 else if i = 1 then 3 else 44, 1)) w
  have R1 := R0.one (Nat.le_refl _) 3 35 [.int .i64 n, .int .i64 n, .slice a l.length cap]
  have R2 := R1.one (by simp) 2 149 [.bool true, .slice none 0 0, .slice none 0 0, .int .i64 1]
  have b2 : Below w.heap.size w ((w.alloc (.cells #[.int .i64 n, .int .i64 n, .slice a l.length cap] 35)).alloc (.cells #[.bool true, .slice none 0 0, .slice none 0 0, .int .i64 1] 149)) := bla _ (bla _ (Below.refl _ _))
  go_enter Try.func86, Try.ntmps86
  go_upto_region 2 with (fail)
  have z1 : (w.alloc (.cells #[.int .i64 n, .int .i64 n, .slice a l.length cap] 35)).heap.size = w.heap.size + 1 := by simp
  rw [z1] at R2
  obtain ⟨ρ2, R2', e0, e1, e2, e3⟩ : ∃ ρ2, RS w.heap.size ρ2 ((w.alloc (.cells #[.int .i64 n, .int .i64 n, .slice a l.length cap] 35)).alloc (.cells #[.bool true, .slice none 0 0, .slice none 0 0, .int .i64 1] 149)) ∧ ρ2 0 = ⟨33, 1, .slice none 0 0, 0, []⟩ ∧ ρ2 1 = ⟨3, 1, .slice none 0 0, 0, []⟩ ∧ ρ2 2 = ⟨149, 4, .slice (some ⟨w.heap.size + 1, 0, none⟩) 1 1, 1, [.bool true, .slice none 0 0, .slice none 0 0, .int .i64 1]⟩ ∧ ρ2 3 = ⟨35, 3, .slice (some ⟨w.heap.size, 0, none⟩) 1 1, 1, [.int .i64 n, .int .i64 n, .slice a l.length cap]⟩ := ⟨_, R2, rfl, rfl, rfl, rfl⟩
  obtain ⟨w2, hw2⟩ : ∃ w2, w2 = ((w.alloc (.cells #[.int .i64 n, .int .i64 n, .slice a l.length cap] 35)).alloc (.cells #[.bool true, .slice none 0 0, .slice none 0 0, .int .i64 1] 149)) := ⟨_, rfl⟩
  rw [← hw2] at R2' b2 ⊢
  clear hw2 R0 R1 R2 z1
  have L2 : LoR w.heap.size ρ2 w2 (w.heap.size + 1) n (.slice none 0 0) (.slice none 0 0) 1 (fun _ => .slice none 0 0) id (rowZ l n) id 0 := ⟨R2', e2, e0, e1, fun i hi => absurd hi (Nat.not_lt_zero _)⟩
  have m0 := R2'.cell e3 (j := 0) rfl
  go_wp2
  go_loopw [10] (fun i w' => StaLoop w (w.heap.size + 1) w.heap.size n l (.slice a l.length cap) i w') (fun i _ => n + 1 - (intOf i).toNat)
  case atStart => exact ⟨0, ρ2, _, _, _, rfl, Nat.zero_le _, L2, e3, b2⟩
  case round =>
    obtain ⟨k, ρ, rv, ov, rw0, rfl, hk, H, hm3, hb⟩ := hrel
    clear L2 R2' m0 b2
    have hB := hb.size
    by_cases hkn : k < n
    · have g6 : (k : Int) < (n : Int) := by omega
      obtain ⟨p, hp⟩ : ∃ p, p = k * n := ⟨_, rfl⟩
      have hpl : p + n ≤ l.length := by
        have : (k + 1) * n ≤ n * n := Nat.mul_le_mul_right n hkn
        rw [Nat.succ_mul] at this
        have := hl.out
        omega
      have hll : l.length ≤ 4096 := by
        have := Nat.mul_le_mul hn hn
        have := hl.out
        omega
      have hmi : (k : Int) * (n : Int) = (p : Int) := by rw [hp]; push_cast; rfl
      have hwp : IntKind.i64.wrap (p : Int) = (p : Int) := IntWalk.i64_in _ (by omega)
      have hpi : (p : Int) ≤ (l.length : Int) := by omega
      have hpn : p ≤ l.length := by omega
      have hci : (l.length : Int) ≤ (cap : Int) := by omega
      have hpc : p < cap := by omega
      obtain ⟨z, hz⟩ : ∃ z, l[0]? = some z := ⟨l[0]'(by omega), List.getElem?_eq_getElem (by omega)⟩
      obtain ⟨bd, off, ea, -⟩ := hc 0 z hz
      subst ea
      have m1 := H.own.cell hm3 (j := 1) rfl
      have m2 := H.own.cell hm3 (j := 2) rfl
      have hmk := made_z n hn
      have hrz := rowZ_len hl.out hkn
      have b5 : Below wr.heap.size wr (wr.alloc (.cells (Array.replicate n (Value.complex .f64 0 0)) 44)) := bl_a _ _
      have n5 : (wr.alloc (.cells (Array.replicate n (Value.complex .f64 0 0)) 44)).heap[wr.heap.size]? = some (.cells (Array.replicate n (Value.complex .f64 0 0)) 44 (0, 0)) := blk_new _ _
      have hcz : ((rowZ l n k).map C).length = n := by rw [List.length_map, hrz]
      have hlp : n ≤ l.length - p := by omega
      have hone : ∀ v ∈ (rowZ l n k).map C, v.oneCell' = true := by
        intro v hv
        obtain ⟨z, -, rfl⟩ := List.mem_map.1 hv
        rfl
      have q1 := cell_alq (o := .cells (Array.replicate n (Value.complex .f64 0 0)) 44) m1
      have q2 := cell_alq (o := .cells (Array.replicate n (Value.complex .f64 0 0)) 44) m2
      have hsrc : ∀ j v, ((rowZ l n k).map C)[j]? = some v → (wr.alloc (.cells (Array.replicate n (Value.complex .f64 0 0)) 44)).cell? ((⟨bd, off + p, none⟩ : Addr).add j) = some v := by
        intro j v hv
        have hj := (List.getElem?_eq_some_iff.1 hv).1
        rw [List.length_map, hrz] at hj
        rw [List.getElem?_map] at hv
        obtain ⟨zj, hzj⟩ : ∃ zj, l[p + j]? = some zj := ⟨l[p + j]'(by omega), List.getElem?_eq_getElem (by omega)⟩
        have hr2 : (rowZ l n k)[j]? = some zj := by
          unfold rowZ
          rw [List.getElem?_take_of_lt hj, List.getElem?_drop, ← hp, hzj]
        rw [hr2] at hv
        obtain rfl := Option.some.inj hv
        obtain ⟨bd', off', e2, hcell⟩ := hc (p + j) zj hzj
        cases e2
        rw [Go.WideShapes.add_plain, Nat.add_assoc]
        exact (bl2 hb b5).cell (World.block_lt_of_cell? _ _ hcell) |>.trans hcell
      go_upto_region 6 with (fail)
      go_upto_region 7 with (first | (refine wpList_mulN rfl _ _ _ _ rfl k n p rfl rfl (by rw [hmi, hwp]) ?_) | (refine wpList_slice_lo rfl _ _ rfl bd off l.length cap p rfl rfl hpn hpc ?_) | (refine wpList_copy_z rfl _ _ rfl wr.heap.size bd (off + p) n (l.length - p) (cap - p) ((rowZ l n k).map C) wr rfl rfl n5 hcz hn hlp hsrc hone b5 ?_; intro w6 own6 b6))
      have R6 := H.own.push hB b6 (10 + k) (Nat.le_refl _) own6
      have u2 := (upd_ne ρ ⟨44, 1, .slice (some ⟨wr.heap.size, 0, none⟩) n n, n, (rowZ l n k).map C⟩ (show 2 ≠ 10 + k by omega)).trans H.st
      have u0 := (upd_ne ρ ⟨44, 1, .slice (some ⟨wr.heap.size, 0, none⟩) n n, n, (rowZ l n k).map C⟩ (show 0 ≠ 10 + k by omega)).trans H.rows
      have u1 := (upd_ne ρ ⟨44, 1, .slice (some ⟨wr.heap.size, 0, none⟩) n n, n, (rowZ l n k).map C⟩ (show 1 ≠ 10 + k by omega)).trans H.order
      have hB6 : w.heap.size ≤ w6.heap.size := Nat.le_trans hB b6.size
      have c1 := R6.cell u2 (j := 1) rfl
      obtain ⟨ra, rc, rfl, -⟩ := own_cap (R6.at u0)
      clear q1 q2 m1 m2 hmk n5 hsrc b5
      go_frame
      go_upto_region 8 with (at_builtin; go_loud (refine wpList_app_rs rfl _ _ 147 rfl w.heap.size 33 (.slice none 0 0) 1 24 Try.underlying147 info_cs2 rfl (by decide) _ 0 R6 _ k _ u0 [.slice (some ⟨wr.heap.size, 0, none⟩) n n] rfl rfl rfl (by simp [Value.oneCell']) (by simp only [maxLen]; omega) (by omega) hB6 ?_); intro g7 cap7 w7 R7 b7; have c2 := R7.cell ((upd_ne _ _ (show 2 ≠ 0 by decide)).trans u2) (j := 1) rfl; have c3 := R7.fr ((upd_ne _ _ (show 2 ≠ 0 by decide)).trans u2) 1; go_frame)
      have R8 := R7.store ((upd_ne _ _ (show 2 ≠ 0 by decide)).trans u2) 1 (.slice (some ⟨g7, 0, none⟩) (k + 1) cap7)
      obtain ⟨w8, hw8⟩ : ∃ w8, w8 = (w7.setCell ⟨w.heap.size + 1, 1, none⟩ (.slice (some ⟨g7, 0, none⟩) (k + 1) cap7)) := ⟨_, rfl⟩
      have b8 : Below w.heap.size w w8 := by
        rw [hw8]
        exact bls ((bl2 hb b6).trans b7) (by simp)
      rw [← hw8] at R8 ⊢
      clear R7 c2 c3 hw8 b7
      have v1 := (upd_ne (upd (upd ρ (10 + k) ⟨44, 1, .slice (some ⟨wr.heap.size, 0, none⟩) n n, n, (rowZ l n k).map C⟩) 0 ⟨33, 1, .slice (some ⟨g7, 0, none⟩) (k + 1) cap7, k + 1, (List.range k).map (fun j => rw0 (id j)) ++ [.slice (some ⟨wr.heap.size, 0, none⟩) n n]⟩) ⟨149, 4, .slice (some ⟨w.heap.size + 1, 0, none⟩) 1 1, 1, [.bool true, .slice (some ⟨g7, 0, none⟩) (k + 1) cap7, ov, .int .i64 1]⟩ (show 1 ≠ 2 by decide)).trans ((upd_ne (upd ρ (10 + k) ⟨44, 1, .slice (some ⟨wr.heap.size, 0, none⟩) n n, n, (rowZ l n k).map C⟩) ⟨33, 1, .slice (some ⟨g7, 0, none⟩) (k + 1) cap7, k + 1, (List.range k).map (fun j => rw0 (id j)) ++ [.slice (some ⟨wr.heap.size, 0, none⟩) n n]⟩ (show 1 ≠ 0 by decide)).trans u1)
      have v2 := upd_same (upd (upd ρ (10 + k) ⟨44, 1, .slice (some ⟨wr.heap.size, 0, none⟩) n n, n, (rowZ l n k).map C⟩) 0 ⟨33, 1, .slice (some ⟨g7, 0, none⟩) (k + 1) cap7, k + 1, (List.range k).map (fun j => rw0 (id j)) ++ [.slice (some ⟨wr.heap.size, 0, none⟩) n n]⟩) 2 ⟨149, 4, .slice (some ⟨w.heap.size + 1, 0, none⟩) 1 1, 1, [.bool true, .slice (some ⟨g7, 0, none⟩) (k + 1) cap7, ov, .int .i64 1]⟩
      have hB8 : w.heap.size ≤ w8.heap.size := b8.size
      obtain ⟨ρ8, he8⟩ : ∃ ρ8, ρ8 = upd (upd (upd ρ (10 + k) ⟨44, 1, .slice (some ⟨wr.heap.size, 0, none⟩) n n, n, (rowZ l n k).map C⟩) 0 ⟨33, 1, .slice (some ⟨g7, 0, none⟩) (k + 1) cap7, k + 1, (List.range k).map (fun j => rw0 (id j)) ++ [.slice (some ⟨wr.heap.size, 0, none⟩) n n]⟩) 2 ⟨149, 4, .slice (some ⟨w.heap.size + 1, 0, none⟩) 1 1, 1, [.bool true, .slice (some ⟨g7, 0, none⟩) (k + 1) cap7, ov, .int .i64 1]⟩ := ⟨_, rfl⟩
      replace R8 : RS w.heap.size ρ8 w8 := by rw [he8]; exact R8
      rw [← he8] at v1 v2
      replace he8 := hid he8
      have c4 := R8.cell v2 (j := 2) rfl
      obtain ⟨oa, oc, rfl, -⟩ := own_cap (R8.at v1)
      go_upto_region 9 with (at_builtin; go_loud (refine wpList_app_rs rfl _ _ 127 rfl w.heap.size 3 (.int .i64 0) 1 8 Try.underlying127 info_int rfl (by decide) _ 1 R8 _ k _ v1 [.int .i64 k] rfl rfl rfl (by simp [Value.oneCell']) (by simp only [maxLen]; omega) (by omega) hB8 ?_); intro g9 cap9 w9 R9 b9; have c5 := R9.cell ((upd_ne _ _ (show 2 ≠ 1 by decide)).trans v2) (j := 2) rfl; have c6 := R9.fr ((upd_ne _ _ (show 2 ≠ 1 by decide)).trans v2) 2; go_frame)
      have R10 := R9.store ((upd_ne _ _ (show 2 ≠ 1 by decide)).trans v2) 2 (.slice (some ⟨g9, 0, none⟩) (k + 1) cap9)
      have HR := H.push (.slice (some ⟨wr.heap.size, 0, none⟩) n n) (.slice (some ⟨g7, 0, none⟩) (k + 1) cap7) (.slice (some ⟨g9, 0, none⟩) (k + 1) cap9) ⟨149, 4, .slice (some ⟨w.heap.size + 1, 0, none⟩) 1 1, 1, [.bool true, .slice (some ⟨g7, 0, none⟩) (k + 1) cap7, .slice oa k oc, .int .i64 1]⟩ (by rw [he8.out]; rfl) R10
      have m3 : upd (upd ρ8 1 ⟨3, 1, .slice (some ⟨g9, 0, none⟩) (k + 1) cap9, k + 1, (List.range k).map (fun j => Value.int .i64 ((id j : Nat) : Int)) ++ [.int .i64 k]⟩) 2 ⟨149, 4, .slice (some ⟨w.heap.size + 1, 0, none⟩) 1 1, 1, [.bool true, .slice (some ⟨g7, 0, none⟩) (k + 1) cap7, .slice (some ⟨g9, 0, none⟩) (k + 1) cap9, .int .i64 1]⟩ 3 = ⟨35, 3, .slice (some ⟨w.heap.size, 0, none⟩) 1 1, 1, [.int .i64 n, .int .i64 n, .slice (some ⟨bd, off, none⟩) l.length cap]⟩ := by
        rw [upd_ne _ _ (by decide), upd_ne _ _ (by decide), he8.out, upd_ne _ _ (by decide), upd_ne _ _ (by decide), upd_ne _ _ (by omega)]
        exact hm3
      have B10 : Below w.heap.size w (w9.setCell ⟨w.heap.size + 1, 2, none⟩ (.slice (some ⟨g9, 0, none⟩) (k + 1) cap9)) := bls (b8.trans b9) (Nat.le_succ _)
      go_wp2
      go_roundw
      case rel => exact ⟨k + 1, _, _, _, _, by go_num, hkn, HR, m3, B10⟩
      case measure => simp [intOf]; omega
    · obtain rfl : k = n := by omega
      have g6 : ¬ (k : Int) < (k : Int) := by omega
      go_wp2
      go_ret
      exact ⟨w.heap.size + 1, rfl, ⟨ρ, rv, ov, rw0, H⟩, hb⟩
end Go.Proofs.Ytgcakhmdmajplaa

