/- phasor.missing, asked, none. Condition: the net was made. phasor.laid. Condition: the net was made; the unknowns lie in a row of their own. -/
import Derived.Test.YtgcakhmdmajplaaTsC
namespace Go.Proofs.Ytgcakhmdmajplaa
open Go.RowKit

set_option maxRecDepth 100000 in
/-- What asked tells of an angular frequency. -/
def askF (x : Option Nat) : Int := if feq (fsub x x) (val 0) = true then (if flt (val 0) x = true then 0 else 2) else 5
set_option maxRecDepth 100000 in
set_option maxHeartbeats 1000000 in
theorem asked_any {w : World} {B : Nat} {N : NB} {V : NV} {L : List El} {nodes br ks ps bs : List ByteArray} (K : NetR w B N V L nodes br ks ps bs) (hh : hasS ks ⟨#[]⟩ = false) (o : Nat) : Calls Try.prog 38 #[.pointer (some ⟨N.n, 0, none⟩), .float .f64 o] w (RetV w (.int .i64 (askF (val o)))) := by
  have HN := hid (missing_any K hh)
  unfold askF
  cases h1 : feq (fsub (val o) (val o)) (val 0)
  · go_enter Try.func38, Try.ntmps38
    go_wp2_with (first | (go_at_call 54; (with_reducible refine HN.out.mono ?_); rintro E1 w1 ⟨rfl, hb⟩) | ((with_reducible refine upon_fadd ?_); intro r n hr hl) | ((with_reducible refine upon_fsub ?_); intro r n hr hl) | ((with_reducible refine upon_fmul ?_); intro r n hr hl) | ((with_reducible refine upon_fdiv ?_); intro r n hr hl) | ((with_reducible refine upon_fmax (by assumption) (by assumption) ?_); intro r n hr hl) | ((with_reducible refine upon_fmin (by assumption) (by assumption) ?_); intro r n hr hl))
    go_ret
    exact ⟨by simp, below_drewN' hb _⟩
  · cases h2 : flt (val 0) (val o)
    all_goals
      go_enter Try.func38, Try.ntmps38
      go_wp2_with (first | (go_at_call 54; (with_reducible refine HN.out.mono ?_); rintro E1 w1 ⟨rfl, hb⟩) | ((with_reducible refine upon_fadd ?_); intro r n hr hl) | ((with_reducible refine upon_fsub ?_); intro r n hr hl) | ((with_reducible refine upon_fmul ?_); intro r n hr hl) | ((with_reducible refine upon_fdiv ?_); intro r n hr hl) | ((with_reducible refine upon_fmax (by assumption) (by assumption) ?_); intro r n hr hl) | ((with_reducible refine upon_fmin (by assumption) (by assumption) ?_); intro r n hr hl))
      go_ret
      exact ⟨by simp, below_drewN' hb _⟩
theorem results_f1 {fn : Func} {p : Tmp} (h : fn.results = #[.cell p 29]) (tmps : Array Value) (w : World) (b : Nat) (x y : Int) (hp : tmps.getD p undef = .pointer (some ⟨b, 0, none⟩)) (hf : FltAt w b x y) :
    (results fn tmps).run Try.prog w = .ok (.agg #[.int .i64 x, .int .i64 y]) w := by
  have c0 := hf.c0
  have c1 := hf.c1
  simp only [Array.getD_eq_getD_getElem?] at hp ⊢
  simp [results, h, hp, go_sem, c0, c1, Sem.run_bind, Result.andThen]
set_option maxRecDepth 100000 in
theorem pnone_any (e : Int) (he : e ≠ 0) (w : World) : Calls Try.prog 39 #[.int .i64 e] w (RetV w (.agg #[.int .i64 e, .int .i64 (-1)])) := by
  have he1 : ¬ e = 0 := he
  go_enter Try.func39, Try.ntmps39
  go_wp2
  refine bodyPost_ret (results_f1 rfl _ _ w.heap.size e (-1) rfl (FltAt.new _ _ _)) rfl ?_
  exact ⟨rfl, bl_a _ _⟩
end Go.Proofs.Ytgcakhmdmajplaa

namespace Go.Proofs.Ytgcakhmdmajplaa
open Go.RowKit

theorem blk3 (w : World) (a b c : Obj) : (((w.alloc a).alloc b).alloc c).drew.heap[w.heap.size]? = some a ∧ (((w.alloc a).alloc b).alloc c).drew.heap[w.heap.size + 1]? = some b ∧ (((w.alloc a).alloc b).alloc c).drew.heap[w.heap.size + 1 + 1]? = some c := by
  refine ⟨?_, ?_, ?_⟩
  · exact ((bl_a _ c).block _ (by simp; omega)).trans (((bl_a _ b).block _ (by simp)).trans (blk_new w a))
  · have h := blk_new (w.alloc a) b
    rw [World.size_alloc] at h
    exact ((bl_a _ c).block _ (by simp)).trans h
  · have h := blk_new ((w.alloc a).alloc b) c
    rw [World.size_alloc, World.size_alloc] at h
    exact h
/-- The solution's box and its two rows, just made. -/
def Ld3 (w1 w : World) (o k m sb va vb : Nat) : Prop := w.heap[sb]? = some (.cells #[.float .f64 o, .slice (some ⟨va, 0, none⟩) k k, .slice (some ⟨vb, 0, none⟩) m m] 47 (0, 0)) ∧ w.heap[va]? = some (.cells (Array.replicate k (Value.complex .f64 0 0)) 44 (0, 0)) ∧ w.heap[vb]? = some (.cells (Array.replicate m (Value.complex .f64 0 0)) 44 (0, 0)) ∧ va ≠ vb ∧ sb ≠ va ∧ sb ≠ vb ∧ w1.heap.size ≤ sb ∧ w1.heap.size ≤ va ∧ w1.heap.size ≤ vb ∧ Below w1.heap.size w1 w
set_option maxRecDepth 100000 in
theorem run_slice_hi (bd n p : Nat) (hp : p ≤ n) : ∃ a, (∀ w, (Instr.sliceAt 33 (.slice (some ⟨bd, 0, none⟩) n n) none (some (.int .i64 p)) none).run Try.prog w = .ok (.slice a p n) w) ∧ (0 < n → a = some ⟨bd, 0, none⟩) := by
  have ht : Try.prog.underlying 33 = some (.slice (Try.prog.elem 33)) := by kernel_rfl
  have hsz : ∀ w, (sizeOf (Try.prog.elem 33)).run Try.prog w = .ok 1 w := by
    intro w
    kernel_rfl
  by_cases h0 : n = 0
  · subst h0
    obtain rfl : p = 0 := by omega
    refine ⟨some ⟨bd, 0, none⟩, fun w => ?_, fun h => absurd h (by decide)⟩
    rw [run_sliceAt_slice w _ _ _ _ _ ht, run_slice_h w _ _ _ _ ht _ _ (by omega) (by omega), hsz]
    rfl
  · refine ⟨_, fun w => ?_, fun _ => rfl⟩
    rw [run_sliceAt_slice w _ _ _ _ _ ht, run_slice_h w _ _ _ _ ht _ _ (by omega) (by omega), hsz]
    have h1 : ¬ n = 0 := h0
    simp [Result.andThen, sliced, h1, Go.WideShapes.add_plain]
set_option maxRecDepth 100000 in
theorem run_slice_lo3 (bd n p : Nat) (hp : p ≤ n) : ∃ a, (∀ w, (Instr.sliceAt 33 (.slice (some ⟨bd, 0, none⟩) n n) (some (.int .i64 p)) none none).run Try.prog w = .ok (.slice a (n - p) (n - p)) w) ∧ (p < n → a = some ⟨bd, p, none⟩) := by
  have ht : Try.prog.underlying 33 = some (.slice (Try.prog.elem 33)) := by kernel_rfl
  have hsz : ∀ w, (sizeOf (Try.prog.elem 33)).run Try.prog w = .ok 1 w := by
    intro w
    kernel_rfl
  by_cases h0 : p = n
  · subst h0
    refine ⟨some ⟨bd, 0, none⟩, fun w => ?_, fun h => absurd h (Nat.lt_irrefl _)⟩
    rw [run_sliceAt_slice w _ _ _ _ _ ht, run_slice_l w _ _ _ _ ht _ _ (by omega) (by omega), hsz]
    simp [Result.andThen, sliced]
  · refine ⟨_, fun w => ?_, fun _ => rfl⟩
    have h := run_slice_lo bd 0 n n p hp (by omega) w
    rw [Nat.zero_add] at h
    exact h
theorem own_cs {w : World} {B g n : Nat} {cs : List Value} (h : w.heap[g]? = some (.cells cs.toArray 44 (0, 0))) (hn : cs.length = n) (hn64 : n ≤ 64) (hB : B ≤ g) : w.ownsRow B 44 1 (.slice (some ⟨g, 0, none⟩) n n) n cs := ⟨by omega, .inr ⟨g, n, cs.toArray, rfl, hB, h, Nat.le_refl _, by simp only [maxLen]; omega, by simp [hn], List.take_of_length_le (by simp [hn])⟩⟩
theorem results_s1 {fn : Func} {p : Tmp} (h : fn.results = #[.cell p 47]) (tmps : Array Value) (w : World) (b : Nat) (x y z : Value) (hp : tmps.getD p undef = .pointer (some ⟨b, 0, none⟩))
    (c0 : w.cell? ⟨b, 0, none⟩ = some x) (c1 : w.cell? ⟨b, 1, none⟩ = some y) (c2 : w.cell? ⟨b, 2, none⟩ = some z) :
    (results fn tmps).run Try.prog w = .ok (.agg #[x, y, z]) w := by
  simp only [Array.getD_eq_getD_getElem?] at hp ⊢
  simp [results, h, hp, go_sem, c0, c1, c2, Sem.run_bind, Result.andThen]
/-- A solution's box. -/
def SolB (w : World) (b : Nat) (o : Nat) (x y : Value) : Prop := w.heap[b]? = some (.cells #[.float .f64 o, x, y] 47 (0, 0))
section
variable {w w' : World} {b o : Nat} {x y : Value}
theorem SolB.c0 (h : SolB w b o x y) : w.cell? ⟨b, 0, none⟩ = some (.float .f64 o) := by unfold SolB at h; simp [World.cell?, h]
theorem SolB.c1 (h : SolB w b o x y) : w.cell? ⟨b, 1, none⟩ = some x := by unfold SolB at h; simp [World.cell?, h]
theorem SolB.c2 (h : SolB w b o x y) : w.cell? ⟨b, 2, none⟩ = some y := by unfold SolB at h; simp [World.cell?, h]
theorem SolB.fr (h : SolB w b o x y) (j : Nat) : w.frozen? ⟨b, j, none⟩ = false := by unfold SolB at h; simp [World.frozen?, h]
theorem SolB.lt (h : SolB w b o x y) : b < w.heap.size := (Array.getElem?_eq_some_iff.1 h).1
theorem SolB.below (h : SolB w b o x y) (hb : Below w.heap.size w w') : SolB w' b o x y := (hb.block b h.lt).trans h
theorem SolB.grown (h : SolB w b o x y) {r : Option Nat} (hg : w.grownBy w' r) (hne : some b ≠ r) : SolB w' b o x y := (hg.block b h.lt hne).trans h
theorem SolB.set (h : SolB w b o x y) (o' : Nat) (x' y' : Value) : SolB (((w.setCell ⟨b, 0, none⟩ (.float .f64 o')).setCell ⟨b, 1, none⟩ x').setCell ⟨b, 2, none⟩ y') b o' x' y' := by
  unfold SolB at *
  simp [World.setCell, Array.getElem?_modify, h]
end
theorem heap_set3 {w : World} {b k : Nat} {o : Obj} (h : w.heap[k]? = some o) (hk : b ≠ k) (x y z : Value) : (((w.setCell ⟨b, 0, none⟩ x).setCell ⟨b, 1, none⟩ y).setCell ⟨b, 2, none⟩ z).heap[k]? = some o := by
  simp [World.setCell, Array.getElem?_modify, hk, h]
/-- 'copy' into a row just made: that block alone turns. -/
theorem wpList_copy_zz {ops : Array Oper} {rest : List Oper} {o : Oper} {a : Act} {Q : Exit → Act → World → Prop} {w : World} (hgd : o.guard = none) (d s : Operand) (ho : o.op = .call { callee := .builtin .copy, args := #[d, s], argTypes := #[33, 33] }) (g n sLen sCap : Nat) (sp : Option Addr) (cs : List Value) (hd : a.eval d = .slice (some ⟨g, 0, none⟩) n n) (hs : a.eval s = .slice sp sLen sCap)
    (hg : w.heap[g]? = some (.cells (Array.replicate n (Value.complex .f64 0 0)) 44 (0, 0))) (hcs : cs.length = n) (hle : n ≤ sLen) (hsrc : 0 < n → ∃ ad, sp = some ad ∧ ∀ j v, cs[j]? = some v → w.cell? (ad.add j) = some v) (hone : ∀ v ∈ cs, v.oneCell' = true)
    (h : ∀ w', w'.heap[g]? = some (.cells cs.toArray 44 (0, 0)) → w.grownBy w' (some g) → wpList Try.prog ops Q rest (a.put o.dst (goInt n)) w') : wpList Try.prog ops Q (o :: rest) a w := by
  by_cases h0 : n = 0
  · subst h0
    obtain rfl : cs = [] := List.eq_nil_of_length_eq_zero hcs
    refine wpList_copy_nothing hgd d s _ _ ho 44 Try.underlying33 (by kernel_rfl) (some ⟨g, 0, none⟩) sp 0 0 sLen sCap hd hs (Nat.min_zero _) ?_
    exact h w hg (gr_refl _ _)
  · obtain ⟨ad, rfl, hc⟩ := hsrc (by omega)
    refine wpList_copy_own hgd d s _ _ ho 44 Try.underlying33 (by kernel_rfl) g 0 n n ad sLen sCap hd hs _ 44 hg cs (by rw [hcs]; exact (Nat.min_eq_right hle).symm) hc (by simp [hcs]) hone ?_
    have e : ((Array.replicate n (Value.complex .f64 0 0)).toList.take 0 ++ (cs ++ (Array.replicate n (Value.complex .f64 0 0)).toList.drop (0 + cs.length))) = cs := by simp [hcs]
    rw [e, hcs]
    refine h _ ?_ ⟨rfl, rfl, rfl, by simp [World.setRow], fun k _ hk => setRow_other w g k _ (fun e => hk (by rw [e]))⟩
    simp [World.setRow, Array.getElem?_modify, hg]
def RetLaid (w : World) (o : Nat) (k : Nat) (l : List Z) (E : Ending) (w' : World) : Prop := ∃ va vb, E = .returned (.agg #[.float .f64 o, va, vb]) ∧ w'.ownsRow w.heap.size 44 1 va k ((l.take k).map C) ∧ w'.ownsRow w.heap.size 44 1 vb (l.length - k) ((l.drop k).map C) ∧ Below w.heap.size w w'
set_option maxRecDepth 100000 in
set_option maxHeartbeats 4000000 in
theorem laid_any {w : World} {B : Nat} {N : NB} {V : NV} {L : List El} {nodes br ks ps bs : List ByteArray} (K : NetR w B N V L nodes br ks ps bs) (hn : nodes.length ≤ 64) (o xb n : Nat) (hkn : nodes.length ≤ n) (hn64 : n ≤ 64) (l : List Z) (hl : l.length = n) (hx : ∀ j z, l[j]? = some z → w.cell? ⟨xb, j, none⟩ = some (.complex .f64 z.1 z.2)) :
    Calls Try.prog 67 #[.pointer (some ⟨N.n, 0, none⟩), .float .f64 o, .slice (some ⟨xb, 0, none⟩) n n] w (RetLaid w o nodes.length l) := by
  have b1 : Below w.heap.size w (w.alloc (.cells #[.float .f64 0, .slice none 0 0, .slice none 0 0] 47)) := bl_a _ _
  have n1 : (w.alloc (.cells #[.float .f64 0, .slice none 0 0, .slice none 0 0] 47)).heap[w.heap.size]? = some (.cells #[.float .f64 0, .slice none 0 0, .slice none 0 0] 47 (0, 0)) := blk_new _ _
  obtain ⟨m, hm⟩ : ∃ m, m = n - nodes.length := ⟨_, rfl⟩
  have hmi : (n : Int) - (nodes.length : Int) = (m : Int) := by omega
  have hwm : IntKind.i64.wrap (m : Int) = (m : Int) := IntWalk.i64_in _ (by omega)
  have hm64 : m ≤ 64 := by omega
  have hmk := made_z nodes.length hn
  have hmm := made_z m hm64
  replace hm := hid hm
  go_enter Try.func67, Try.ntmps67
  go_upto_region 1 with (fail)
  obtain ⟨w1, hw1⟩ : ∃ w1, w1 = w.alloc (.cells #[.float .f64 0, .slice none 0 0, .slice none 0 0] 47) := ⟨_, rfl⟩
  rw [← hw1] at b1 n1 ⊢
  have hlt1 : w.heap.size < w1.heap.size := by rw [hw1]; simp
  clear hw1
  have HN := hid (nNodes_any (K.below b1) (by omega))
  go_upto_region 2 with (go_at_call 10; (with_reducible refine HN.out.mono ?_); rintro E3 w3 ⟨v3, rfl, o3, hb3⟩; obtain ⟨a3, c3, rfl, -⟩ := owns_cap o3)
  go_cut [8] from 12 to 20 (fun s wx => ∃ sb va vb, s = .pointer (some ⟨sb, 0, none⟩) ∧ Ld3 w3 wx o nodes.length m sb va vb)
  case first =>
    go_region_with (fail)
    all_goals
      go_wp2
      go_meet
    · exact ⟨w3.heap.size + 1 + 1, w3.heap.size, w3.heap.size + 1, rfl, (blk3 w3 _ _ _).2.2, (blk3 w3 _ _ _).1, (blk3 w3 _ _ _).2.1, by omega, by omega, by omega, by omega, by omega, by omega, bld (bla _ (bla _ (bl_a _ _)))⟩
    · exact ⟨w3.heap.size + 1, w3.heap.size, w3.heap.size + 1 + 1, rfl, (blk3 w3 _ _ _).2.1, (blk3 w3 _ _ _).1, (blk3 w3 _ _ _).2.2, by omega, by omega, by omega, by omega, by omega, by omega, bld (bla _ (bla _ (bl_a _ _)))⟩
    · exact ⟨w3.heap.size + 1 + 1, w3.heap.size + 1, w3.heap.size, rfl, (blk3 w3 _ _ _).2.2, (blk3 w3 _ _ _).2.1, (blk3 w3 _ _ _).1, by omega, by omega, by omega, by omega, by omega, by omega, bld (bla _ (bla _ (bl_a _ _)))⟩
    · exact ⟨w3.heap.size + 1, w3.heap.size + 1 + 1, w3.heap.size, rfl, (blk3 w3 _ _ _).2.1, (blk3 w3 _ _ _).2.2, (blk3 w3 _ _ _).1, by omega, by omega, by omega, by omega, by omega, by omega, bld (bla _ (bla _ (bl_a _ _)))⟩
    · exact ⟨w3.heap.size, w3.heap.size + 1, w3.heap.size + 1 + 1, rfl, (blk3 w3 _ _ _).1, (blk3 w3 _ _ _).2.1, (blk3 w3 _ _ _).2.2, by omega, by omega, by omega, by omega, by omega, by omega, bld (bla _ (bla _ (bl_a _ _)))⟩
    · exact ⟨w3.heap.size, w3.heap.size + 1 + 1, w3.heap.size + 1, rfl, (blk3 w3 _ _ _).1, (blk3 w3 _ _ _).2.2, (blk3 w3 _ _ _).2.1, by omega, by omega, by omega, by omega, by omega, by omega, bld (bla _ (bla _ (bl_a _ _)))⟩
  case rest =>
    obtain ⟨sb, va, vb, rfl, S0, V0, A0, ne1, ne2, ne3, l1, l2, l3, bc⟩ := hcut
    have b13 := bl2 b1 hb3
    have bwc := bl2 b13 bc
    have hx0 := hx
    have hxc : ∀ j z, l[j]? = some z → wc.cell? ⟨xb, j, none⟩ = some (.complex .f64 z.1 z.2) := fun j z hz => (Below.cell bwc (World.block_lt_of_cell? _ _ (hx j z hz))).trans (hx j z hz)
    have n3w : wc.heap[w.heap.size]? = some (.cells #[.float .f64 0, .slice none 0 0, .slice none 0 0] 47 (0, 0)) := ((bl2 hb3 bc).block _ hlt1).trans n1
    have hlt3 := Nat.lt_of_lt_of_le hlt1 hb3.size
    have c1 : wc.cell? ⟨sb, 1, none⟩ = some (.slice (some ⟨va, 0, none⟩) nodes.length nodes.length) := by simp [World.cell?, S0]
    have c2 : wc.cell? ⟨sb, 2, none⟩ = some (.slice (some ⟨vb, 0, none⟩) m m) := by simp [World.cell?, S0]
    have gk : (nodes.length : Int) ≤ (n : Int) := by omega
    clear hmk hmm HN n1 b1 hb3 bc b13 hwm
    go_upto_region 3 with (fail)
    obtain ⟨sa, hsl, hsa⟩ := run_slice_hi xb n nodes.length hkn
    have hct : ((l.take nodes.length).map C).length = nodes.length := by rw [List.length_map, List.length_take, hl]; omega
    have hcd : ((l.drop nodes.length).map C).length = m := by rw [List.length_map, List.length_drop, hl, hm.out]
    have ho1 : ∀ (ys : List Z), ∀ v ∈ ys.map C, v.oneCell' = true := by
      intro ys v hv
      obtain ⟨z, -, rfl⟩ := List.mem_map.1 hv
      rfl
    have hs1 : Hid (0 < nodes.length → ∃ ad, sa = some ad ∧ ∀ j v, ((l.take nodes.length).map C)[j]? = some v → wc.drew.cell? (ad.add j) = some v) := hid fun hp => by
      refine ⟨⟨xb, 0, none⟩, hsa (by omega), fun j v hv => ?_⟩
      have hj := (List.getElem?_eq_some_iff.1 hv).1
      rw [hct] at hj
      rw [List.getElem?_map, List.getElem?_take_of_lt hj] at hv
      obtain ⟨z, hz, rfl⟩ := Option.map_eq_some_iff.1 hv
      rw [Go.WideShapes.add_plain, Nat.zero_add]
      exact hxc j z hz
    have hone1 := hid (ho1 (l.take nodes.length))
    have hone2 := hid (ho1 (l.drop nodes.length))
    have V0d : wc.drew.heap[va]? = some (.cells (Array.replicate nodes.length (Value.complex .f64 0 0)) 44 (0, 0)) := V0
    refine wp_region_takes 5 0 (by kernel_rfl) (by kernel_rfl) (fun _ _ _ _ _ h => h) ?_
    simp only [List.take_succ_cons, List.take_zero, List.drop_succ_cons, List.drop_zero]
    repeat
      first
        | (refine wpTk_reck rfl rfl (fun K hK => ?_); unfold Oper.gives; go_simp; refine hK _ ?_; clear hK K)
        | (refine wpTk_loadD rfl rfl (fun K hK => ?_); unfold Oper.gives; go_simp; refine hK _ ?_; clear hK K)
    refine wpTk_nil (wpDs_zero ?_)
    refine wpList_copy_zz rfl _ _ rfl va nodes.length nodes.length n sa ((l.take nodes.length).map C) rfl rfl V0d hct (Nat.le_refl _) hs1.out hone1.out ?_
    intro w5 V5 g5
    go_frame
    go_upto_region 4 with (fail)
    have hsbl : sb < wc.drew.heap.size := (Array.getElem?_eq_some_iff.1 S0).1
    have hvbl : vb < wc.drew.heap.size := (Array.getElem?_eq_some_iff.1 A0).1
    have S5 : SolB w5 sb o (.slice (some ⟨va, 0, none⟩) nodes.length nodes.length) (.slice (some ⟨vb, 0, none⟩) m m) := (g5.block sb hsbl (by intro e; cases e; exact ne2 rfl)).trans S0
    have A5 : w5.drew.heap[vb]? = some (.cells (Array.replicate m (Value.complex .f64 0 0)) 44 (0, 0)) := (g5.block vb hvbl (by intro e; cases e; exact ne1 rfl)).trans A0
    have N5 : SolB w5 w.heap.size 0 (.slice none 0 0) (.slice none 0 0) := (g5.block w.heap.size (Array.getElem?_eq_some_iff.1 n3w).1 (by intro e; cases e; omega)).trans n3w
    have hx5 : ∀ j z, l[j]? = some z → w5.cell? ⟨xb, j, none⟩ = some (.complex .f64 z.1 z.2) := fun j z hz => gr_cell g5 (by
      have := World.block_lt_of_cell? _ _ (hx0 j z hz)
      show xb ≠ va
      intro e
      rw [e] at this
      exact absurd (show va < w.heap.size from this) (by omega)) (hxc j z hz)
    obtain ⟨sd, hsl2, hsd⟩ := run_slice_lo3 xb n nodes.length hkn
    rw [← hm.out] at hsl2
    have hs2 : Hid (0 < m → ∃ ad, sd = some ad ∧ ∀ j v, ((l.drop nodes.length).map C)[j]? = some v → w5.drew.cell? (ad.add j) = some v) := hid fun hp => by
      refine ⟨⟨xb, nodes.length, none⟩, hsd (by have := hm.out; omega), fun j v hv => ?_⟩
      rw [List.getElem?_map, List.getElem?_drop] at hv
      obtain ⟨z, hz, rfl⟩ := Option.map_eq_some_iff.1 hv
      rw [Go.WideShapes.add_plain]
      exact hx5 _ z hz
    have d2 := S5.c2
    clear hsl hsa hs1 V0d c1 c2 hxc S0 V0 A0
    refine wp_region_takes 5 0 (by kernel_rfl) (by kernel_rfl) (fun _ _ _ _ _ h => h) ?_
    simp only [List.take_succ_cons, List.take_zero, List.drop_succ_cons, List.drop_zero]
    repeat
      first
        | (refine wpTk_reck rfl rfl (fun K hK => ?_); unfold Oper.gives; go_simp; refine hK _ ?_; clear hK K)
        | (refine wpTk_loadD rfl rfl (fun K hK => ?_); unfold Oper.gives; go_simp; refine hK _ ?_; clear hK K)
    refine wpTk_nil (wpDs_zero ?_)
    refine wpList_copy_zz rfl _ _ rfl vb m m m sd ((l.drop nodes.length).map C) rfl rfl A5 hcd (Nat.le_refl _) hs2.out hone2.out ?_
    intro w7 A7 g7
    go_frame
    have S7 : SolB w7 sb o (.slice (some ⟨va, 0, none⟩) nodes.length nodes.length) (.slice (some ⟨vb, 0, none⟩) m m) := SolB.grown (show SolB w5.drew sb _ _ _ from S5) g7 (by intro e; cases e; exact ne3 rfl)
    have hva5 : va < w5.drew.heap.size := (Array.getElem?_eq_some_iff.1 V5).1
    have V7 : w7.heap[va]? = some (.cells ((l.take nodes.length).map C).toArray 44 (0, 0)) := (g7.block va hva5 (by intro e; cases e; exact ne1 rfl)).trans V5
    have N7 : SolB w7 w.heap.size 0 (.slice none 0 0) (.slice none 0 0) := SolB.grown (show SolB w5.drew w.heap.size _ _ _ from N5) g7 (by intro e; cases e; omega)
    have g5' : wc.grownBy w5 (some va) := ⟨g5.os, g5.tape, g5.output, g5.size, g5.block⟩
    have g7' : w5.grownBy w7 (some vb) := ⟨g7.os, g7.tape, g7.output, g7.size, g7.block⟩
    have b7 : Below w.heap.size w w7 := bwc.trans ((gr_below g5' (by omega) bwc.size).trans (gr_below g7' (by omega) (Nat.le_trans bwc.size g5'.size)))
    clear g5' g7'
    clear g5 g7 S5 A5 N5 V5 hx5 hsl2 hsd hs2 d2 n3w bwc
    have q0 := S7.c0
    have q1 := S7.c1
    have q2 := S7.c2
    have f0 := N7.c0
    have f1 := N7.c1
    have f2 := N7.c2
    have f3 := N7.fr 0
    have f4 := N7.fr 1
    have f5 := N7.fr 2
    have N8 := N7.set o (.slice (some ⟨va, 0, none⟩) nodes.length nodes.length) (.slice (some ⟨vb, 0, none⟩) m m)
    have V8 := heap_set3 V7 (show w.heap.size ≠ va by omega) (.float .f64 o) (.slice (some ⟨va, 0, none⟩) nodes.length nodes.length) (.slice (some ⟨vb, 0, none⟩) m m)
    have A8 := heap_set3 A7 (show w.heap.size ≠ vb by omega) (.float .f64 o) (.slice (some ⟨va, 0, none⟩) nodes.length nodes.length) (.slice (some ⟨vb, 0, none⟩) m m)
    have b8 := below_set3 b7 (.float .f64 o) (.slice (some ⟨va, 0, none⟩) nodes.length nodes.length) (.slice (some ⟨vb, 0, none⟩) m m) (Nat.le_refl w.heap.size)
    go_wp2
    refine bodyPost_ret (results_s1 rfl _ _ w.heap.size (.float .f64 o) (.slice (some ⟨va, 0, none⟩) nodes.length nodes.length) (.slice (some ⟨vb, 0, none⟩) m m) rfl N8.c0 N8.c1 N8.c2) rfl ?_
    refine ⟨_, _, rfl, own_cs V8 hct hn (by omega), ?_, b8⟩
    rw [show l.length - nodes.length = m by rw [hl, hm.out]]
    exact own_cs A8 hcd hm64 (by omega)
end Go.Proofs.Ytgcakhmdmajplaa
