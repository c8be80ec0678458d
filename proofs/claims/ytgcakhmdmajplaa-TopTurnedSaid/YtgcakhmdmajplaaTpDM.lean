/- What is stamped of an element of any kind; the table; is it a net? Conditions: the element may be, the net is made. stamp.Matrix, plainly; the empty board. No condition. A net's matrix: all its numbers are finite; without Transfers and Amplifiers it equals its transpose. Plain; no condition. -/
import Derived.Test.YtgcakhmdmajplaaTpC
import Derived.Test.YtgcakhmdmajplaaBaseM
namespace Go.Proofs.Ytgcakhmdmajplaa
open Go.RowKit Go.Maps

/-- What an element turns the board into. -/
def stampE (nodes br : List ByteArray) (S : Bd) (e : El) (y : CV) : Bd :=
  if e.kind = 4 then S
  else if e.kind = 5 then branP (nodes.length + br.length) S (rowP nodes e.a) (rowP nodes e.b) ((nodes.length : Int) + plc br e.name)
  else if e.kind = 6 then transP (nodes.length + br.length) S (rowP nodes e.a) (rowP nodes e.b) (rowP nodes e.c) (rowP nodes e.d) (cv e.v 0)
  else if e.kind = 7 then ampP (nodes.length + br.length) S (rowP nodes e.a) (rowP nodes e.b) (rowP nodes e.c) (rowP nodes e.d) ((nodes.length : Int) + plc br e.name) (cv e.v 0)
  else pairP (nodes.length + br.length) S (rowP nodes e.a) (rowP nodes e.b) y
/-- The table's function for a kind. -/
def fnK (k : Nat) : Nat := if k = 4 then 45 else if k = 5 then 47 else if k = 6 then 48 else if k = 7 then 49 else 46
theorem node_16 {s : ByteArray} (h : nodeS s = true) : s.size ≤ 16 := by
  unfold nodeS at h
  simp only [Bool.and_eq_true, decide_eq_true_eq] at h
  exact h.1.2
theorem empty_16 {s : ByteArray} (h : s.toList = []) : s.size ≤ 16 := by
  rw [ByteArray.toList_eq] at h
  have h2 : s.data.toList.length = s.size := Array.length_toList
  rw [h] at h2
  simp at h2
  omega
/-- An element that may be: its kind, its texts. -/
theorem checkE_ok {e : El} (h : checkE e = 0) : (1 ≤ e.kind ∧ e.kind ≤ 8) ∧ ElS e := by
  unfold checkE at h
  split at h
  · rename_i hk
    have hk2 : 1 ≤ e.kind ∧ e.kind ≤ 8 := by
      unfold okK at hk
      simpa only [Bool.and_eq_true, decide_eq_true_eq] using hk
    refine ⟨hk2, ?_⟩
    split at h
    · rename_i hn
      unfold namedE at hn
      simp only [Bool.and_eq_true, decide_eq_true_eq] at hn
      obtain ⟨⟨⟨h1, h2⟩, h3⟩, h4⟩ := hn
      have hname : e.name.size ≤ 16 := by
        unfold nameK at h1
        split at h1
        · rename_i hl
          unfold lenS at hl
          simp only [Bool.and_eq_true, decide_eq_true_eq] at hl
          exact hl.1.2
        · omega
      refine ⟨hname, node_16 h2, node_16 h3, ?_⟩
      cases hf : fourK e.kind with
      | true =>
        rw [hf] at h4
        simp only [Bool.not_true, Bool.false_or, Bool.and_eq_true] at h4
        exact ⟨node_16 h4.1, node_16 h4.2⟩
      | false =>
        split at h
        · cases h
        · rename_i ha
          unfold argE at ha
          rw [hf] at ha
          simp only [Bool.not_false, Bool.true_and, Bool.or_eq_true, not_or, bne_iff_ne, ne_eq, Decidable.not_not] at ha
          exact ⟨empty_16 ha.1.2.1, empty_16 ha.1.2.2⟩
    · cases h
  · cases h
section
variable {w0 w w' : World} {B b : Nat} {N : NB} {V : NV} {L : List El} {nodes br ks : List ByteArray} {S S' : Bd}
theorem stamp_any (e : El) (he : ElS e) (hm : brK e.kind = true → hasS br e.name = true) (x y : Nat) (H : StK w0 B N V L nodes br ks w b S) : Calls Try.prog (fnK e.kind) #[.pointer (some ⟨b, 0, none⟩), elV e, .complex .f64 x y] w (RetSt w0 B N V L nodes br ks w b (stampE nodes br S e (cv x y))) := by
  unfold stampE fnK
  by_cases h4 : e.kind = 4
  · rw [if_pos h4, if_pos h4]; exact none_any e x y H
  · rw [if_neg h4, if_neg h4]
    by_cases h5 : e.kind = 5
    · rw [if_pos h5, if_pos h5]; exact branch_any e he (hm (by rw [h5]; rfl)) x y H
    · rw [if_neg h5, if_neg h5]
      by_cases h6 : e.kind = 6
      · rw [if_pos h6, if_pos h6]; exact transfer_any e he x y H
      · rw [if_neg h6, if_neg h6]
        by_cases h7 : e.kind = 7
        · rw [if_pos h7, if_pos h7]; exact amplifier_any e he (hm (by rw [h7]; rfl)) x y H
        · rw [if_neg h7, if_neg h7]; exact pair_any e he x y H
end
def fnV (k : Nat) : Value := .func (.func k) #[] #[]
def tabV : Value := .agg #[fnV 45, fnV 46, fnV 46, fnV 46, fnV 45, fnV 47, fnV 48, fnV 49, fnV 46]
@[go_sem] theorem run_store_func {P : Program} {w : World} {a : Addr} {m : Mode} (f : Fn) (x y : Array Value) : (store a (.func f x y) m).run P w = stored P w a (.func f x y) m := run_store P w a _ m rfl
set_option maxRecDepth 100000 in
set_option maxHeartbeats 1000000 in
theorem stamps_any (w : World) : Calls Try.prog 27 #[] w (RetV w tabV) := by
  go_enter Try.func27, Try.ntmps27
  go_wp2
  refine bodyPost_ret (v := tabV) ?_ rfl ⟨rfl, bl_a _ _⟩
  simp [results, Try.results27, go_sem, Sem.run_bind, Result.andThen, tabV, fnV]
set_option maxRecDepth 100000 in
set_option maxHeartbeats 1000000 in
theorem made_any {w : World} {B : Nat} {N : NB} {V : NV} {L : List El} {nodes br ks ps bs : List ByteArray} (K : NetR w B N V L nodes br ks ps bs) (hh : hasS ks ⟨#[]⟩ = false) : Calls Try.prog 25 #[.pointer (some ⟨N.n, 0, none⟩)] w (RetV w (.bool true)) := by
  have HN := hid (nWithout_any K hh)
  go_enter Try.func25, Try.ntmps25
  go_wp2_with (go_at_call 43; (with_reducible refine HN.out.mono ?_); rintro E1 w1 ⟨rfl, hb⟩)
  go_ret
  exact ⟨rfl, hb⟩
end Go.Proofs.Ytgcakhmdmajplaa

namespace Go.Proofs.Ytgcakhmdmajplaa
open Go.RowKit Go.Maps

def admK (k : Nat) : Bool := k == 1 || k == 2 || k == 3 || k == 8
def bd0 : Bd := ⟨fun _ => (val 0, val 0), false⟩
def mxE (x : Option Nat) : Int := if (isInf x || !feq x x) = true then 5 else if fle x (val 0) = true then 2 else 0
def matG (nodes br : List ByteArray) (x : Option Nat) : Nat → Bd → List El → (Int × Int) × Bd
  | _, S, [] => ((0, 0), S)
  | k, S, e :: r =>
    if admK e.kind = true ∧ recE true e x ≠ 0 then ((recE true e x, (k : Int)), S)
    else if (stampE nodes br S e (if admK e.kind = true then recG true e x else (val 0, val 0))).over = true then ((6, (k : Int)), stampE nodes br S e (if admK e.kind = true then recG true e x else (val 0, val 0)))
    else matG nodes br x (k + 1) (stampE nodes br S e (if admK e.kind = true then recG true e x else (val 0, val 0))) r
def matF (nodes br : List ByteArray) (L : List El) (x : Option Nat) : (Int × Int) × List CV :=
  if mxE x = 0 then (if (matG nodes br x 0 bd0 L).1.1 = 0 then ((0, 0), (List.range ((nodes.length + br.length) * (nodes.length + br.length))).map (matG nodes br x 0 bd0 L).2.z) else ((matG nodes br x 0 bd0 L).1, [])) else ((mxE x, -1), [])
def RetMx (w : World) (sz : Nat) (r : (Int × Int) × List CV) (E : Ending) (w' : World) : Prop := ∃ (v : Value) (l : List Z), E = .returned (.tuple #[.agg #[.int .i64 (if r.1.1 = 0 then (sz : Int) else 0), .int .i64 (if r.1.1 = 0 then (sz : Int) else 0), v], .agg #[.int .i64 r.1.1, .int .i64 r.1.2]]) ∧ w'.ownsRow w.heap.size 44 1 v l.length (l.map C) ∧ l.map zv = r.2 ∧ Below w.heap.size w w'
def isC0 : Value → Bool
  | .complex .f64 0 0 => true
  | _ => false
def isAg : Value → Bool
  | .agg _ => true
  | _ => false
theorem isC0_eq {v : Value} (h : isC0 v = true) : v = .complex .f64 0 0 := by
  unfold isC0 at h
  split at h
  · rfl
  · cases h
theorem isAg_eq {v : Value} (h : isAg v = true) : v = .agg v.cells := by
  unfold isAg at h
  split at h
  · rfl
  · cases h
set_option maxRecDepth 1000000 in
theorem zb1 : ((Try.prog.info? 71).bind (·.zero)).isSome = true := by kernel_rfl
set_option maxRecDepth 1000000 in
theorem zb3 : ((Try.prog.info? 71).bind (·.zero)).map (fun v => v.cells.size) = some 4100 := by kernel_rfl
set_option maxRecDepth 1000000 in
theorem zb4 : ((Try.prog.info? 71).bind (·.zero)).map isAg = some true := by kernel_rfl
set_option maxRecDepth 1000000 in
theorem zb5 : ((Try.prog.info? 71).bind (·.zero)).map (fun v => (v.cells.toList.drop 4).all isC0) = some true := by kernel_rfl
set_option maxRecDepth 1000000 in
theorem zb6 : ((Try.prog.info? 71).bind (·.zero)).map (fun v => v.cells.toList.take 4) = some [.pointer none, .int .i64 0, .int .i64 0, .bool false] := by kernel_rfl
/-- The empty board's cells. -/
theorem bd_ex : ∃ z : Array Value, (∀ w, (zeroValue 71).run Try.prog w = .ok (.agg z) w) ∧ z.size = 4100 ∧ z.toList.take 4 = [.pointer none, .int .i64 0, .int .i64 0, .bool false] ∧ (z.toList.drop 4).all isC0 = true := by
  obtain ⟨v, hv⟩ := Option.isSome_iff_exists.1 zb1
  have h3 := zb3
  have h4 := zb4
  have h5 := zb5
  have h6 := zb6
  rw [hv] at h3 h4 h5 h6
  simp only [Option.map_some, Option.some.injEq] at h3 h4 h5 h6
  refine ⟨v.cells, fun w => ?_, h3, h6, h5⟩
  cases hi : Try.prog.info? 71 with
  | none => rw [hi] at hv; cases hv
  | some i =>
    rw [hi] at hv
    have hv2 : i.zero = some v := hv
    rw [← isAg_eq h4]
    simp [zeroValue, typeInfo, hi, hv2]
theorem zb_cells : Try.zeroCells71.size = 4100 ∧ Try.zeroCells71.toList.take 4 = [.pointer none, .int .i64 0, .int .i64 0, .bool false] ∧ (Try.zeroCells71.toList.drop 4).all isC0 = true := by
  obtain ⟨z, hz, h1, h2, h3⟩ := bd_ex
  have h := (hz default).symm.trans (Try.zeroValue71 default)
  injection h with h
  injection h with h
  rw [← h]
  exact ⟨h1, h2, h3⟩
theorem bd_new (n nd sz : Nat) (s : Int) (hs : s = (sz : Int)) (w : World) : BdAt (w.alloc (.cells (((Try.zeroCells71.setIfInBounds 0 (.pointer (some ⟨n, 0, none⟩))).setIfInBounds 1 (.int .i64 nd)).setIfInBounds 2 (.int .i64 s)) 71)) w.heap.size n nd sz false (fun _ => (0, 0)) := by
  subst hs
  obtain ⟨h1, h2, h3⟩ := zb_cells
  generalize Try.zeroCells71 = z at *
  refine ⟨_, blk_new _ _, by simp [h1], by simp [h1], by simp [h1], by simp [h1], ?_, fun k hk => ?_⟩
  · have h4 : z.toList[3]? = some (.bool false) := by
      have := congrArg (fun l => l[3]?) h2
      simpa [List.getElem?_take] using this
    simpa [Array.getElem?_setIfInBounds] using h4
  · have hlt : 4 + k < z.size := by omega
    have h4 : isC0 (z[4 + k]'hlt) = true := by
      refine List.all_eq_true.1 h3 _ ?_
      refine List.mem_of_getElem? (i := k) ?_
      rw [List.getElem?_drop]
      simp [hlt]
    rw [Array.getElem?_setIfInBounds_ne (by omega), Array.getElem?_setIfInBounds_ne (by omega), Array.getElem?_setIfInBounds_ne (by omega), Array.getElem?_eq_getElem hlt, isC0_eq h4]
    rfl
end Go.Proofs.Ytgcakhmdmajplaa

namespace Go.Proofs.Ytgcakhmdmajplaa
open Go.RowKit

def Mir (sz : Nat) (z : Nat → CV) : Prop := ∀ i j, i < sz → j < sz → z (i * sz + j) = z (j * sz + i)
theorem ix_inj {sz i j p q : Nat} (hj : j < sz) (hq : q < sz) (h : i * sz + j = p * sz + q) : i = p ∧ j = q := by
  have h1 : i = p := by
    have h2 : (i * sz + j) / sz = (p * sz + q) / sz := by rw [h]
    rw [Nat.mul_comm, Nat.mul_add_div (by omega), Nat.div_eq_of_lt hj, Nat.mul_comm p, Nat.mul_add_div (by omega), Nat.div_eq_of_lt hq] at h2
    omega
  subst h1
  exact ⟨rfl, by omega⟩
theorem mir_diag {sz : Nat} {z : Nat → CV} (h : Mir sz z) {i : Nat} (hi : i < sz) (v : CV) : Mir sz (fun k => if k = i * sz + i then v else z k) := by
  intro p q hp hq
  dsimp only
  by_cases h1 : p * sz + q = i * sz + i
  · obtain ⟨rfl, rfl⟩ := ix_inj hq hi h1
    rfl
  · rw [if_neg h1, if_neg]
    · exact h p q hp hq
    · intro h2
      obtain ⟨rfl, rfl⟩ := ix_inj hp hi h2
      exact h1 rfl
theorem mir_pair {sz : Nat} {z : Nat → CV} (h : Mir sz z) {i j : Nat} (hi : i < sz) (hj : j < sz) (f : CV → CV) :
    Mir sz (fun k => if k = j * sz + i then f ((fun k => if k = i * sz + j then f (z (i * sz + j)) else z k) (j * sz + i)) else (fun k => if k = i * sz + j then f (z (i * sz + j)) else z k) k) := by
  by_cases hij : i = j
  · subst hij
    have h1 := mir_diag (mir_diag h hi (f (z (i * sz + i)))) hi (f ((fun k => if k = i * sz + i then f (z (i * sz + i)) else z k) (i * sz + i)))
    exact h1
  · have hne : ¬ j * sz + i = i * sz + j := fun e => hij (ix_inj hi hj e).2
    have e1 : (fun k => if k = i * sz + j then f (z (i * sz + j)) else z k) (j * sz + i) = z (i * sz + j) := by
      show (if j * sz + i = i * sz + j then f (z (i * sz + j)) else z (j * sz + i)) = _
      rw [if_neg hne]
      exact h j i hj hi
    rw [e1]
    intro p q hp hq
    dsimp only
    by_cases h1 : p * sz + q = j * sz + i
    · obtain ⟨rfl, rfl⟩ := ix_inj hq hi h1
      rw [if_pos rfl, if_neg (fun e => hne e.symm), if_pos rfl]
    · rw [if_neg h1]
      by_cases h2 : p * sz + q = i * sz + j
      · obtain ⟨rfl, rfl⟩ := ix_inj hq hj h2
        rw [if_pos rfl, if_pos rfl]
      · rw [if_neg h2, if_neg, if_neg]
        · exact h p q hp hq
        · intro e
          obtain ⟨rfl, rfl⟩ := ix_inj hp hj e
          exact h1 rfl
        · intro e
          obtain ⟨rfl, rfl⟩ := ix_inj hp hi e
          exact h2 rfl
/-- Nothing over, then all finite. -/
def FinB (S : Bd) : Prop := S.over = false → ∀ k, cfin (S.z k) = true
theorem FinB.set {S : Bd} (h : FinB S) (k : Nat) (v : CV) : FinB (bdSet S k v) := by
  intro ho j
  unfold bdSet at ho ⊢
  dsimp only at ho ⊢
  simp only [Bool.or_eq_false_iff, Bool.not_eq_false'] at ho
  split
  · exact ho.2
  · exact h ho.1 j
theorem FinB.add {S : Bd} (h : FinB S) (sz : Nat) (i j : Int) (y : CV) : FinB (bdAdd sz S i j y) := by
  unfold bdAdd
  split
  · exact h
  · exact h.set _ _
theorem FinB.sub {S : Bd} (h : FinB S) (sz : Nat) (i j : Int) (y : CV) : FinB (bdSub sz S i j y) := by
  unfold bdSub
  split
  · exact h
  · exact h.set _ _
theorem FinB.stamp {S : Bd} (h : FinB S) (nodes br : List ByteArray) (e : El) (y : CV) : FinB (stampE nodes br S e y) := by
  unfold stampE
  repeat' split
  · exact h
  · exact (((h.add _ _ _ _).add _ _ _ _).sub _ _ _ _).sub _ _ _ _
  · exact (((h.add _ _ _ _).sub _ _ _ _).sub _ _ _ _).add _ _ _ _
  · exact (((((h.add _ _ _ _).add _ _ _ _).sub _ _ _ _).sub _ _ _ _).sub _ _ _ _).add _ _ _ _
  · exact (((h.add _ _ _ _).add _ _ _ _).sub _ _ _ _).sub _ _ _ _
theorem mir_addd {sz : Nat} {S : Bd} (h : Mir sz S.z) {i : Int} (hi : i < sz) (y : CV) : Mir sz (bdAdd sz S i i y).z := by
  unfold bdAdd
  split
  · exact h
  · exact mir_diag h (by omega) _
theorem mir_adds {sz : Nat} {S : Bd} (h : Mir sz S.z) {i j : Int} (hi : i < sz) (hj : j < sz) (y : CV) : Mir sz (bdAdd sz (bdAdd sz S i j y) j i y).z := by
  unfold bdAdd
  by_cases h1 : i < 0 ∨ j < 0
  · rw [if_pos h1, if_pos (by omega)]
    exact h
  · rw [if_neg h1, if_neg (by omega)]
    exact mir_pair h (by omega) (by omega) (fun v => cadd v y)
theorem mir_subs {sz : Nat} {S : Bd} (h : Mir sz S.z) {i j : Int} (hi : i < sz) (hj : j < sz) (y : CV) : Mir sz (bdSub sz (bdSub sz S i j y) j i y).z := by
  unfold bdSub
  by_cases h1 : i < 0 ∨ j < 0
  · rw [if_pos h1, if_pos (by omega)]
    exact h
  · rw [if_neg h1, if_neg (by omega)]
    exact mir_pair h (by omega) (by omega) (fun v => csub v y)
theorem mir_stamp {nodes br : List ByteArray} {S : Bd} (h : Mir (nodes.length + br.length) S.z) {e : El} (h6 : e.kind ≠ 6) (h7 : e.kind ≠ 7) (hbr : brK e.kind = true → hasS br e.name = true) (y : CV) : Mir (nodes.length + br.length) (stampE nodes br S e y).z := by
  have ha := rowP_lt nodes e.a
  have hb := rowP_lt nodes e.b
  unfold stampE
  by_cases h4 : e.kind = 4
  · rw [if_pos h4]
    exact h
  · rw [if_neg h4]
    by_cases h5 : e.kind = 5
    · rw [if_pos h5]
      have hp := plc_lt (hbr (by rw [h5]; rfl))
      unfold branP
      exact mir_subs (mir_adds h (by push_cast; omega) (by push_cast; omega) _) (by push_cast; omega) (by push_cast; omega) _
    · rw [if_neg h5, if_neg h6, if_neg h7]
      unfold pairP
      exact mir_subs (mir_addd (mir_addd h (by push_cast; omega) _) (by push_cast; omega) _) (by push_cast; omega) (by push_cast; omega) _
theorem matG_fin (nodes br : List ByteArray) (x : Option Nat) : ∀ (L : List El) (k : Nat) (S : Bd), FinB S → S.over = false → (matG nodes br x k S L).1.1 = 0 → ∀ p, cfin ((matG nodes br x k S L).2.z p) = true
  | [], _, S, hf, ho, _, p => hf ho p
  | e :: r, k, S, hf, ho, h, p => by
    unfold matG at h ⊢
    by_cases h1 : admK e.kind = true ∧ recE true e x ≠ 0
    · rw [if_pos h1] at h
      exact absurd h h1.2
    · rw [if_neg h1] at h ⊢
      have hs := hf.stamp nodes br e (if admK e.kind = true then recG true e x else (val 0, val 0))
      generalize stampE nodes br S e (if admK e.kind = true then recG true e x else (val 0, val 0)) = S' at h hs ⊢
      by_cases h2 : S'.over = true
      · rw [if_pos h2] at h
        cases h
      · rw [if_neg h2] at h ⊢
        exact matG_fin nodes br x r _ _ hs (by simpa using h2) h p
theorem matG_mir (nodes br : List ByteArray) (x : Option Nat) : ∀ (L : List El) (k : Nat) (S : Bd), (∀ e ∈ L, e.kind ≠ 6 ∧ e.kind ≠ 7 ∧ (brK e.kind = true → hasS br e.name = true)) → Mir (nodes.length + br.length) S.z → (matG nodes br x k S L).1.1 = 0 → Mir (nodes.length + br.length) (matG nodes br x k S L).2.z
  | [], _, _, _, hm, _ => hm
  | e :: r, k, S, hL, hm, h => by
    obtain ⟨h6, h7, hb⟩ := hL e (List.mem_cons_self ..)
    unfold matG at h ⊢
    by_cases h1 : admK e.kind = true ∧ recE true e x ≠ 0
    · rw [if_pos h1] at h
      exact absurd h h1.2
    · rw [if_neg h1] at h ⊢
      have hs := mir_stamp hm h6 h7 hb (if admK e.kind = true then recG true e x else (val 0, val 0))
      generalize stampE nodes br S e (if admK e.kind = true then recG true e x else (val 0, val 0)) = S' at h hs ⊢
      by_cases h2 : S'.over = true
      · rw [if_pos h2] at h
        cases h
      · rw [if_neg h2] at h ⊢
        exact matG_mir nodes br x r _ _ (fun e' he => hL e' (List.mem_cons_of_mem _ he)) hs h
/-- The matrix' numbers. -/
theorem matF_fin {nodes br : List ByteArray} {L : List El} {x : Option Nat} (h : (matF nodes br L x).1.1 = 0) : (∀ v ∈ (matF nodes br L x).2, cfin v = true) ∧ ((∀ e ∈ L, e.kind ≠ 6 ∧ e.kind ≠ 7 ∧ (brK e.kind = true → hasS br e.name = true)) → ∀ i j, i < nodes.length + br.length → j < nodes.length + br.length → (matF nodes br L x).2[i * (nodes.length + br.length) + j]? = (matF nodes br L x).2[j * (nodes.length + br.length) + i]?) := by
  unfold matF at h ⊢
  split at h
  · rename_i h1
    rw [if_pos h1]
    split at h
    · rename_i h2
      rw [if_pos h2]
      refine ⟨fun v hv => ?_, fun hL i j hi hj => ?_⟩
      · obtain ⟨p, -, rfl⟩ := List.mem_map.1 hv
        exact matG_fin nodes br x L 0 bd0 (fun _ _ => show cfin (val 0, val 0) = true by decide +kernel) rfl h2 p
      · have hm := matG_mir nodes br x L 0 bd0 hL (fun _ _ _ _ => rfl) h2 i j hi hj
        have b1 : i * (nodes.length + br.length) + j < (nodes.length + br.length) * (nodes.length + br.length) := by
          have := Nat.mul_le_mul_right (nodes.length + br.length) (show i + 1 ≤ nodes.length + br.length from hi)
          rw [Nat.succ_mul] at this
          omega
        have b2 : j * (nodes.length + br.length) + i < (nodes.length + br.length) * (nodes.length + br.length) := by
          have := Nat.mul_le_mul_right (nodes.length + br.length) (show j + 1 ≤ nodes.length + br.length from hj)
          rw [Nat.succ_mul] at this
          omega
        rw [List.getElem?_map, List.getElem?_map, List.getElem?_range b1, List.getElem?_range b2]
        exact congrArg some hm
    · rename_i h2
      exact absurd h h2
  · rename_i h1
    exact absurd h h1
end Go.Proofs.Ytgcakhmdmajplaa
