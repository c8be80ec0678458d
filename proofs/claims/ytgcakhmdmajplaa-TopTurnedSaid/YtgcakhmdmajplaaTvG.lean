/- solve.Solve. Condition: the matrix was made by lower.Of, at most 64 rows, its order within the rows. -/
import Derived.Test.YtgcakhmdmajplaaTvBM
import Derived.Deep.CutRange
namespace Go.Proofs.Ytgcakhmdmajplaa
open Go.RowKit

def RetSol (w : World) (n : Nat) (r : Int × (Nat → CV)) (E : Ending) (w' : World) : Prop := ∃ v, E = .returned (.tuple #[v, .int .i64 r.1]) ∧ Below w.heap.size w w' ∧ ((r.1 ≠ 0 ∧ v = .slice none 0 0) ∨ (r.1 = 0 ∧ ∃ (l : List Z) (xb : Nat), v = .slice (some ⟨xb, 0, none⟩) n n ∧ (∀ j z, l[j]? = some z → w'.cell? ⟨xb, j, none⟩ = some (.complex .f64 z.1 z.2)) ∧ l.map zv = (List.range n).map r.2))
def FwA (W : World) (n : Nat) (M : Nat → Nat → CV) (od : Nat → Nat) (b : Nat → CV) (G : SolS) (i : Value) (w : World) : Prop := ∃ (k : Nat) (s : SolS), i = .int .i64 k ∧ k ≤ n ∧ SolvS W n s w ∧ G = fwdF M od b (n - k) k s
def FwB (W : World) (n : Nat) (M : Nat → Nat → CV) (od : Nat → Nat) (b : Nat → CV) (G : SolS) (i : Nat) (k : Value) (w : World) : Prop := ∃ (q : Nat) (s : SolS), k = .int .i64 q ∧ q ≤ i ∧ SolvS W n s w ∧ G = fwdF M od b (n - (i + 1)) (i + 1) (rowF M i (i - q) q s)
def BwC (W : World) (n : Nat) (M : Nat → Nat → CV) (G : SolS) (i : Value) (w : World) : Prop := ∃ (k : Nat) (s : SolS), i = .int .i64 ((k : Int) - 1) ∧ k ≤ n ∧ SolvS W n s w ∧ G = bwdF n M k s
def BwD (W : World) (n : Nat) (M : Nat → Nat → CV) (G : SolS) (i : Nat) (k : Value) (w : World) : Prop := ∃ (q : Nat) (s : SolS), k = .int .i64 q ∧ i < q ∧ q ≤ n ∧ SolvS W n s w ∧ G = bwdF n M i (dstepF M i (rowF M i (n - q) q s))
theorem fwdF_succ (M : Nat → Nat → CV) (od : Nat → Nat) (b : Nat → CV) (f i : Nat) (s : SolS) : fwdF M od b (f + 1) i s = fwdF M od b f (i + 1) (rowF M i i 0 (setX s.1 i (b (od i)), s.2)) := rfl
theorem rowF_succ (M : Nat → Nat → CV) (i f k : Nat) (s : SolS) : rowF M i (f + 1) k s = rowF M i f (k + 1) (fstepF M i k s) := rfl
theorem bwdF_succ (n : Nat) (M : Nat → Nat → CV) (i : Nat) (s : SolS) : bwdF n M (i + 1) s = bwdF n M i (dstepF M i (rowF M i (n - (i + 1)) (i + 1) s)) := rfl
theorem sl_ints {w : World} {v : Value} {n : Nat} {od : Nat → Nat} (h : Sl w v ((List.range n).map fun j => Value.int .i64 (od j : Int))) : ∃ a c, v = .slice a n c ∧ ∀ j, j < n → ∃ b off, a = some ⟨b, off, none⟩ ∧ w.cell? ⟨b, off + j, none⟩ = some (.int .i64 (od j : Int)) := by
  obtain ⟨a, cap, rfl, hr, -, -⟩ := h
  refine ⟨a, cap, by simp, fun j hj => ?_⟩
  have hx : ((List.range n).map fun j => Value.int .i64 (od j : Int))[j]? = some (.int .i64 (od j : Int)) := by simp [hj]
  obtain ⟨b, off, e, hcell⟩ := hr.at hx
  exact ⟨b, off, e, hcell j _ hx⟩
theorem solv_start (W : World) (n : Nat) (hn : n ≤ 64) : SolvS W n (fun _ => (val 0, val 0), false) ((W.alloc (.cells #[.bool false] 140)).alloc (.cells (Array.replicate n (Value.complex .f64 0 0)) 44)) := by
  have R0 : RS W.heap.size (fun i => Rw.nil (if i = 0 then 44 else 140) 1) W := RS.start W.heap.size (fun i => (if i = 0 then 44 else 140, 1)) W
  have R1 := R0.one (Nat.le_refl _) 1 140 [.bool false]
  have R2 := R1.push (by simp) (bl_a _ (.cells (Array.replicate n (Value.complex .f64 0 0)) 44)) 0 (Nat.le_refl _) (own_col n hn _)
  refine ⟨_, List.replicate n (0, 0), R2, ?_, ?_, XsV.zero n, bla _ (bl_a _ _)⟩
  · rw [upd_same]
    simp
  · rw [upd_ne _ _ (by decide), upd_same]
    rfl
set_option maxRecDepth 100000 in
set_option maxHeartbeats 4000000 in
theorem Solve_any (w : World) (lb n : Nat) (hn : n ≤ 64) (M : Nat → Nat → CV) (od : Nat → Nat) (sg : Int) (h : LoV w lb n M od sg) (hsg : sg = 1 ∨ sg = -1) (hod : ∀ i, i < n → od i < n) (l : List Z) (bv : Value) (hs : Sl w bv (l.map C)) (hl : l.length ≤ 4096) :
    Calls Try.prog 66 #[.pointer (some ⟨lb, 0, none⟩), bv] w (RetSol w n (solF n M od (l.map zv))) := by
  obtain ⟨G, hG⟩ : ∃ G, G = solF n M od (l.map zv) := ⟨_, rfl⟩
  rw [← hG]
  replace hG := hid hG
  obtain ⟨ba, bc, rfl, -⟩ := hs.cz
  have HO := hid (open_made hn h hsg)
  have HW := hid fun w' x y z (hb : Below w.heap.size w w') => wrong_any w' n x y z l (.slice ba l.length bc) (hs.below hb) hl
  have hmk := made_z n hn
  go_enter Try.func66, Try.ntmps66
  go_upto_region 4 with (go_at_call 79; (with_reducible refine HO.out.mono ?_); rintro E1 w1 ⟨lv, uv, ov, ll, ul, rfl, hsl, hsu, hso, hll, hul, hb1⟩; obtain ⟨la, lc, rfl, -⟩ := hsl.cz; obtain ⟨ua, uc, rfl, -⟩ := hsu.cz; obtain ⟨oa, oc, rfl, -⟩ := sl_ints hso)
  have S2 : SysAt (w1.alloc (.cells #[.int .i64 n, .slice la ll.length lc, .slice ua ul.length uc, .slice oa n oc] 134)) w1.heap.size n (.slice la ll.length lc) (.slice ua ul.length uc) (.slice oa n oc) := blk_new _ _
  have b2 : Below w1.heap.size w1 (w1.alloc (.cells #[.int .i64 n, .slice la ll.length lc, .slice ua ul.length uc, .slice oa n oc] 134)) := bl_a _ _
  obtain ⟨w2, hw2⟩ : ∃ w2, w2 = w1.alloc (.cells #[.int .i64 n, .slice la ll.length lc, .slice ua ul.length uc, .slice oa n oc] 134) := ⟨_, rfl⟩
  rw [← hw2] at S2 b2 ⊢
  clear hw2 HO
  have q0 := S2.c0
  have q1 := S2.c1
  have q2 := S2.c2
  have q3 := S2.c3
  have hb2 := bl2 hb1 b2
  obtain ⟨e, he⟩ : ∃ e, e = wrF n (l.map zv) := ⟨_, rfl⟩
  rw [← he] at HW
  replace he := hid he
  by_cases he0 : e = 0
  · subst he0
    have hln : l.length = n := by
      have he := he.out
      unfold wrF at he
      split at he
      · cases he
      · rename_i h1
        simpa using h1
    replace hln := hid hln
    go_upto_region 7 with (go_at_call 80; (with_reducible refine (HW.out _ _ _ _ hb2).mono ?_); rintro E3 w3 ⟨rfl, hb3⟩; have S3 := S2.below hb3; have p0 := S3.c0; have p1 := S3.c1; have p2 := S3.c2; have p3 := S3.c3)
    have P5 := solv_start w3 n hn
    obtain ⟨bf, hbf⟩ : ∃ bf : Nat → CV, bf = fun i => (l.map zv).getD i (none, none) := ⟨_, rfl⟩
    have hG2 : G = (if (bwdF n M n (fwdF M od bf n 0 (fun _ => (val 0, val 0), false))).2 = true then 6 else 0, (bwdF n M n (fwdF M od bf n 0 (fun _ => (val 0, val 0), false))).1) := by
      rw [hG.out]
      unfold solF
      rw [← he.out, if_neg (by decide), ← hbf]
      dsimp only
      split <;> rfl
    obtain ⟨F1, hF1⟩ : ∃ F1, F1 = fwdF M od bf n 0 (fun _ => (val 0, val 0), false) := ⟨_, rfl⟩
    rw [← hF1] at hG2
    obtain ⟨F2, hF2⟩ : ∃ F2, F2 = bwdF n M n F1 := ⟨_, rfl⟩
    rw [← hF2] at hG2
    replace hF1 := hid hF1
    replace hbf := hid hbf
    replace hF2 := hid hF2
    replace hG2 := hid hG2
    have b13 := bl2 b2 hb3
    have hsl3 := hsl.below b13
    have hsu3 := hsu.below b13
    have hso3 := hso.below b13
    have b03 := bl2 hb2 hb3
    have hs3 := hs.below b03
    have hsb := S3.lt
    clear hG he q0 q1 q2 q3 S2 b2 HW hsl hsu hso hs b13 hb1 hb2 hb3
    go_upto_region 9 with (fail)
    obtain ⟨w5, hw5⟩ : ∃ w5, w5 = (w3.alloc (.cells #[.bool false] 140)).alloc (.cells (Array.replicate n (Value.complex .f64 0 0)) 44) := ⟨_, rfl⟩
    rw [← hw5] at P5 ⊢
    clear hw5 p0 p1 p2 p3 hmk
    go_wp2
    go_loopw [35] (fun i w' => FwA w3 n M od bf F1 i w') (fun i _ => n + 1 - (intOf i).toNat)
    case atStart => exact ⟨0, _, rfl, Nat.zero_le _, P5, hF1.out⟩
    case round =>
      obtain ⟨i, s, rfl, hi, H, hF⟩ := hrel
      clear P5 hF1
      by_cases hin : i < n
      · have g1 : (i : Int) < (n : Int) := by omega
        have hoi := hod i hin
        have g2 : (od i : Int) < (n : Int) := by omega
        have hb := H.b
        have S4 := S3.below hb
        have p3 := S4.c3
        obtain ⟨oa', oc', e1, ho⟩ := sl_ints (hso3.below hb)
        cases e1
        obtain ⟨ob, oof, rfl, cO⟩ := ho i hin
        obtain ⟨ba', bc', e2, hbz⟩ := (hs3.below hb).cz
        cases e2
        obtain ⟨z, hz⟩ : ∃ z, l[od i]? = some z := ⟨l[od i]'(by have := hln.out; omega), List.getElem?_eq_getElem _⟩
        obtain ⟨bb, bof, rfl, cB⟩ := hbz _ z hz
        obtain ⟨y, cX, -⟩ := H.x hin
        have fX := H.xf i
        have gB : (od i : Int) < (l.length : Int) := by have := hln.out; omega
        have H2 := H.setx i z
        have hF2 : Hid (F1 = fwdF M od bf (n - (i + 1)) (i + 1) (rowF M i i 0 (setX s.1 i (cv z.1 z.2), s.2))) := hid (by
          rw [hF]
          obtain ⟨m, hm⟩ : ∃ m, n - i = m + 1 := ⟨n - i - 1, by omega⟩
          have hm2 : n - (i + 1) = m := by omega
          have hg : bf (od i) = cv z.1 z.2 := by
            rw [hbf.out]
            exact getD_zq hz
          rw [hm, hm2, fwdF_succ, hg])
        go_upto_region 13 with (fail)
        obtain ⟨w6, hw6⟩ : ∃ w6, w6 = wr.setCell ⟨w3.heap.size + 1, i, none⟩ (.complex .f64 z.1 z.2) := ⟨_, rfl⟩
        rw [← hw6] at H2 ⊢
        clear hw6 hF H hb S4 p3 ho cO hbz hz cB cX fX
        go_wp2
        go_loopw [50] (fun k w' => FwB w3 n M od bf F1 i k w') (fun k _ => n + 1 - (intOf k).toNat)
        case atStart => exact ⟨0, _, rfl, Nat.zero_le _, H2, hF2.out⟩
        case round =>
          obtain ⟨k, t, rfl, hk, H, hF⟩ := hrel
          clear H2 hF2
          by_cases hki : k < i
          · have g3 : (k : Int) < (i : Int) := by omega
            have hkn : k < n := by omega
            have g4 : (k : Int) < (n : Int) := by omega
            have hb := H.b
            have S4 := S3.below hb
            have p0 := S4.c0
            have p1 := S4.c1
            obtain ⟨la', lc', e1, hL⟩ := hsl3.cz
            cases e1
            obtain ⟨y, hy, hyv⟩ := partF_get hll hin hkn
            obtain ⟨lb2, lo, rfl, cL3⟩ := hL _ y hy
            have hlt := World.block_lt_of_cell? _ _ cL3
            have cL := (Below.cell hb hlt).trans cL3
            rw [show lE M i k = M i k by unfold lE; rw [if_neg (by omega), if_pos hki]] at hyv
            obtain ⟨xi, cXi, hxi⟩ := H.x hin
            obtain ⟨xk, cXk, hxk⟩ := H.x hkn
            have fX := H.xf i
            have hql := (List.getElem?_eq_some_iff.1 hy).1
            obtain ⟨p, hp⟩ : ∃ p, p = i * n := ⟨_, rfl⟩
            obtain ⟨q, hq⟩ : ∃ q, q = p + k := ⟨_, rfl⟩
            have hmi : (i : Int) * (n : Int) = (p : Int) := by rw [hp]; push_cast; rfl
            have hmq : (p : Int) + (k : Int) = (q : Int) := by rw [hq]; push_cast; rfl
            rw [← hp, ← hq] at hql
            have cL2 : wr.cell? ⟨lb2, lo + q, none⟩ = some (.complex .f64 y.1 y.2) := by rw [hq, hp]; exact cL
            have hlt2 : lb2 < w3.heap.size := hlt
            replace hp := hid hp
            replace hq := hid hq
            have hq4 : q ≤ 4096 := by
              have h1 : (i + 1) * n ≤ 64 * 64 := Nat.mul_le_mul (by omega) hn
              rw [Nat.succ_mul] at h1
              have := hp.out
              have := hq.out
              omega
            have hwp : IntKind.i64.wrap (p : Int) = (p : Int) := IntWalk.i64_in _ (by have := hq.out; omega)
            have hwq : IntKind.i64.wrap (q : Int) = (q : Int) := IntWalk.i64_in _ (by omega)
            have gq : (q : Int) < (ll.length : Int) := by omega
            have HLs : Hid (Calls Try.prog 81 #[.pointer (some ⟨w3.heap.size, 0, none⟩), .complex .f64 xi.1 xi.2, .complex .f64 y.1 y.2, .complex .f64 xk.1 xk.2] wr.drew (RetLess wr.drew w3.heap.size t.2 (csub (t.1 i) (cmul (M i k) (t.1 k))))) := hid (less_any wr.drew w3.heap.size t.2 H.l H.lf _ _ _ _ _ _ _ _ _ hxi hyv hxk)
            go_upto_region 16 with (fail)
            refine wp_region_takesR (exc_ok w3.heap.size) 21 1 (by kernel_rfl) (by kernel_rfl) (fun _ _ _ _ _ h => h) ?_
            simp only [List.take_succ_cons, List.take_zero, List.drop_succ_cons, List.drop_zero]
            repeat (refine wpTk_reck rfl rfl (fun K hK => ?_); unfold Oper.gives; go_simp; refine hK _ ?_; clear hK K)
            (refine wpTk_load rfl rfl (fun K hK => ?_); refine ⟨.complex .f64 xi.1 xi.2, fun wq hq => ?_, ?_⟩; (· (have eq1 := (hq _ (Nat.succ_ne_self _)).trans (cXi); go_simp)); go_simp; refine hK _ ?_; clear hK K)
            repeat (refine wpTk_reck rfl rfl (fun K hK => ?_); unfold Oper.gives; go_simp; refine hK _ ?_; clear hK K)
            (refine wpTk_load rfl rfl (fun K hK => ?_); refine ⟨.slice (some ⟨lb2, lo, none⟩) ll.length lc, fun wq hq => ?_, ?_⟩; (· (have eq1 := (hq _ (Nat.ne_of_lt hsb)).trans (p1); go_simp)); go_simp; refine hK _ ?_; clear hK K)
            repeat (refine wpTk_reck rfl rfl (fun K hK => ?_); unfold Oper.gives; go_simp; refine hK _ ?_; clear hK K)
            (refine wpTk_load rfl rfl (fun K hK => ?_); refine ⟨.int .i64 n, fun wq hq => ?_, ?_⟩; (· (have eq1 := (hq _ (Nat.ne_of_lt hsb)).trans (p0); go_simp)); go_simp; refine hK _ ?_; clear hK K)
            repeat (refine wpTk_reck rfl rfl (fun K hK => ?_); unfold Oper.gives; go_simp; refine hK _ ?_; clear hK K)
            (refine wpTk_load rfl rfl (fun K hK => ?_); refine ⟨.complex .f64 y.1 y.2, fun wq hq => ?_, ?_⟩; (· (have eq1 := (hq _ (Nat.ne_of_lt hlt2)).trans (cL2); go_simp)); go_simp; refine hK _ ?_; clear hK K)
            repeat (refine wpTk_reck rfl rfl (fun K hK => ?_); unfold Oper.gives; go_simp; refine hK _ ?_; clear hK K)
            (refine wpTk_load rfl rfl (fun K hK => ?_); refine ⟨.complex .f64 xk.1 xk.2, fun wq hq => ?_, ?_⟩; (· (have eq1 := (hq _ (Nat.succ_ne_self _)).trans (cXk); go_simp)); go_simp; refine hK _ ?_; clear hK K)
            refine wpTk_nil ?_
            refine wpDs_step rfl (fun K hK => ?_)
            go_simp
            go_at_call 81
            with_reducible refine HLs.out.mono ?_
            rintro E8 w8 ⟨x1, x2, m, rfl, hz, rfl⟩
            refine hK _ _ (exc_set _ _ _ _ _) (wpDs_zero ?_)
            clear hK K
            have H7 : SolvS w3 n (t.1, t.2 || !cfin (csub (t.1 i) (cmul (M i k) (t.1 k)))) ((wr.drew.drewN m).setCell ⟨w3.heap.size, 0, none⟩ (.bool (t.2 || !cfin (csub (t.1 i) (cmul (M i k) (t.1 k)))))) := ((H.drewN 1).drewN m).setl _
            obtain ⟨w7, hw7⟩ : ∃ w7, w7 = (wr.drew.drewN m).setCell ⟨w3.heap.size, 0, none⟩ (.bool (t.2 || !cfin (csub (t.1 i) (cmul (M i k) (t.1 k))))) := ⟨_, rfl⟩
            rw [← hw7] at H7 ⊢
            clear hw7 cXi cXk cL cL2 p0 p1 fX S4 HLs hb
            obtain ⟨xj, cXj, -⟩ := H7.x hin
            have fXj := H7.xf i
            have H8 := H7.setx i (x1, x2)
            have e8 : (setX (t.1, t.2 || !cfin (csub (t.1 i) (cmul (M i k) (t.1 k)))).1 i (cv (x1, x2).1 (x1, x2).2), (t.1, t.2 || !cfin (csub (t.1 i) (cmul (M i k) (t.1 k)))).2) = fstepF M i k t := by
              show (setX t.1 i (cv x1 x2), _) = _
              rw [hz]
              rfl
            rw [e8] at H8
            have hF3 := hid (show F1 = fwdF M od bf (n - (i + 1)) (i + 1) (rowF M i (i - (k + 1)) (k + 1) (fstepF M i k t)) by
              rw [hF]
              obtain ⟨m', hm⟩ : ∃ m', i - k = m' + 1 := ⟨i - k - 1, by omega⟩
              have hm2 : i - (k + 1) = m' := by omega
              rw [hm, hm2, rowF_succ])
            have hk1 : IntKind.i64.wrap ((k : Int) + 1) = (k : Int) + 1 := IntWalk.i64_in _ (by omega)
            clear H7 H hF e8 hz hyv hxi hxk
            go_wp2
            go_roundw
            case rel => exact ⟨k + 1, _, by go_num, hki, H8, hF3.out⟩
            case measure => simp [intOf]; omega
          · obtain rfl : k = i := by omega
            have g3 : ¬ (k : Int) < (k : Int) := by omega
            rw [Nat.sub_self] at hF
            have hF3 := hid (show F1 = fwdF M od bf (n - (k + 1)) (k + 1) t from hF)
            have hk1 : IntKind.i64.wrap ((k : Int) + 1) = (k : Int) + 1 := IntWalk.i64_in _ (by omega)
            clear hF
            go_wp2
            go_roundw
            case rel => exact ⟨k + 1, _, by go_num, hin, H, hF3.out⟩
            case measure => simp [intOf]; omega
      · obtain rfl : n = i := by omega
        have g1 : ¬ (n : Int) < (n : Int) := by omega
        rw [Nat.sub_self] at hF
        have hF3 := hid (show F1 = s from hF)
        clear hF
        have hb := H.b
        have S4 := S3.below hb
        have p0 := S4.c0
        have hn1 : IntKind.i64.wrap ((n : Int) - 1) = (n : Int) - 1 := IntWalk.i64_in _ (by omega)
        go_wp2
        go_loopw [13] (fun i w' => BwC w3 n M F2 i w') (fun i _ => (intOf i + 1).toNat)
        case atStart => exact ⟨n, s, rfl, Nat.le_refl _, H, by rw [← hF3.out]; exact hF2.out⟩
        case round =>
          obtain ⟨k, t, rfl, hk, H2, hF⟩ := hrel
          clear H S4 p0 hb hF2 hF3
          cases k with
          | zero =>
            have hFe : F2 = t := hF
            have cl := H2.l
            obtain ⟨t1, t2⟩ := t
            cases t2 with
            | false =>
              have hGe := hid (show G = (0, t1) by
                rw [hG2.out, hFe, if_neg (by simp)])
              obtain ⟨ρ, xs, R, r0, r1, hx, hb⟩ := H2
              clear hF hFe hG2
              go_wp2
              go_ret2
              rw [hGe.out]
              exact ⟨_, rfl, bl2 b03 hb, .inr ⟨rfl, xs, _, rfl, fun j z hz => R.cell r0 (by rw [List.getElem?_map, hz]; rfl), hx.map⟩⟩
            | true =>
              have hGe := hid (show G = (6, t1) by
                rw [hG2.out, hFe, if_pos (by simp)])
              have hb := H2.b
              clear hF hFe hG2
              go_wp2
              go_ret2
              rw [hGe.out]
              exact ⟨_, rfl, bl2 b03 hb, .inl ⟨(show (6 : Int) ≠ 0 by decide), rfl⟩⟩
          | succ i =>
            have hki : ((i + 1 : Nat) : Int) - 1 = (i : Int) := by omega
            have hin : i < n := hk
            have g1 : (i : Int) < (n : Int) := by omega
            have g0 : ¬ ((i : Int) < 0) := by omega
            have hi1 : IntKind.i64.wrap ((i : Int) + 1) = (i : Int) + 1 := IntWalk.i64_in _ (by omega)
            have hF4 := hid (show F2 = bwdF n M i (dstepF M i (rowF M i (n - (i + 1)) (i + 1) t)) from hF)
            rw [hki]
            clear hF hki hk
            go_wp2
            go_loopw [14] (fun k w' => BwD w3 n M F2 i k w') (fun k _ => n + 1 - (intOf k).toNat)
            case atStart => exact ⟨i + 1, t, by go_num, Nat.lt_succ_self i, hin, H2, hF4.out⟩
            case round =>
              obtain ⟨k, v, rfl, hik, hk, H, hF⟩ := hrel
              clear H2 hF4
              have hb := H.b
              have S4 := S3.below hb
              have p0 := S4.c0
              have p2 := S4.c2
              by_cases hkn : k < n
              · have g3 : (k : Int) < (n : Int) := by omega
                obtain ⟨ua', uc', e1, hU⟩ := hsu3.cz
                cases e1
                obtain ⟨y, hy, hyv⟩ := partF_get hul hin hkn
                obtain ⟨ub2, uo, rfl, cU3⟩ := hU _ y hy
                have hlt := World.block_lt_of_cell? _ _ cU3
                have cU := (Below.cell hb hlt).trans cU3
                rw [show uE M i k = M i k by unfold uE; rw [if_neg (by omega)]] at hyv
                have hql := (List.getElem?_eq_some_iff.1 hy).1
                obtain ⟨p, hp⟩ : ∃ p, p = i * n := ⟨_, rfl⟩
                obtain ⟨q, hq⟩ : ∃ q, q = p + k := ⟨_, rfl⟩
                have hmi : (i : Int) * (n : Int) = (p : Int) := by rw [hp]; push_cast; rfl
                have hmq : (p : Int) + (k : Int) = (q : Int) := by rw [hq]; push_cast; rfl
                rw [← hp, ← hq] at hql
                have cU2 : wr.cell? ⟨ub2, uo + q, none⟩ = some (.complex .f64 y.1 y.2) := by rw [hq, hp]; exact cU
                have hlt2 : ub2 < w3.heap.size := hlt
                replace hp := hid hp
                replace hq := hid hq
                have hq4 : q ≤ 4096 := by
                  have h1 : (i + 1) * n ≤ 64 * 64 := Nat.mul_le_mul (by omega) hn
                  rw [Nat.succ_mul] at h1
                  have := hp.out
                  have := hq.out
                  omega
                have hwp : IntKind.i64.wrap (p : Int) = (p : Int) := IntWalk.i64_in _ (by have := hq.out; omega)
                have hwq : IntKind.i64.wrap (q : Int) = (q : Int) := IntWalk.i64_in _ (by omega)
                have gq : (q : Int) < (ul.length : Int) := by omega
                obtain ⟨xi, cXi, hxi⟩ := H.x hin
                obtain ⟨xk, cXk, hxk⟩ := H.x hkn
                have fX := H.xf i
                have HLs : Hid (Calls Try.prog 81 #[.pointer (some ⟨w3.heap.size, 0, none⟩), .complex .f64 xi.1 xi.2, .complex .f64 y.1 y.2, .complex .f64 xk.1 xk.2] wr.drew (RetLess wr.drew w3.heap.size v.2 (csub (v.1 i) (cmul (M i k) (v.1 k))))) := hid (less_any wr.drew w3.heap.size v.2 H.l H.lf _ _ _ _ _ _ _ _ _ hxi hyv hxk)
                go_upto_region 25 with (fail)
                refine wp_region_takesR (exc_ok w3.heap.size) 21 1 (by kernel_rfl) (by kernel_rfl) (fun _ _ _ _ _ h => h) ?_
                simp only [List.take_succ_cons, List.take_zero, List.drop_succ_cons, List.drop_zero]
                repeat (refine wpTk_reck rfl rfl (fun K hK => ?_); unfold Oper.gives; go_simp; refine hK _ ?_; clear hK K)
                (refine wpTk_load rfl rfl (fun K hK => ?_); refine ⟨.complex .f64 xi.1 xi.2, fun wq hq => ?_, ?_⟩; (· (have eq1 := (hq _ (Nat.succ_ne_self _)).trans (cXi); go_simp)); go_simp; refine hK _ ?_; clear hK K)
                repeat (refine wpTk_reck rfl rfl (fun K hK => ?_); unfold Oper.gives; go_simp; refine hK _ ?_; clear hK K)
                (refine wpTk_load rfl rfl (fun K hK => ?_); refine ⟨.slice (some ⟨ub2, uo, none⟩) ul.length uc, fun wq hq => ?_, ?_⟩; (· (have eq1 := (hq _ (Nat.ne_of_lt hsb)).trans (p2); go_simp)); go_simp; refine hK _ ?_; clear hK K)
                repeat (refine wpTk_reck rfl rfl (fun K hK => ?_); unfold Oper.gives; go_simp; refine hK _ ?_; clear hK K)
                (refine wpTk_load rfl rfl (fun K hK => ?_); refine ⟨.int .i64 n, fun wq hq => ?_, ?_⟩; (· (have eq1 := (hq _ (Nat.ne_of_lt hsb)).trans (p0); go_simp)); go_simp; refine hK _ ?_; clear hK K)
                repeat (refine wpTk_reck rfl rfl (fun K hK => ?_); unfold Oper.gives; go_simp; refine hK _ ?_; clear hK K)
                (refine wpTk_load rfl rfl (fun K hK => ?_); refine ⟨.complex .f64 y.1 y.2, fun wq hq => ?_, ?_⟩; (· (have eq1 := (hq _ (Nat.ne_of_lt hlt2)).trans (cU2); go_simp)); go_simp; refine hK _ ?_; clear hK K)
                repeat (refine wpTk_reck rfl rfl (fun K hK => ?_); unfold Oper.gives; go_simp; refine hK _ ?_; clear hK K)
                (refine wpTk_load rfl rfl (fun K hK => ?_); refine ⟨.complex .f64 xk.1 xk.2, fun wq hq => ?_, ?_⟩; (· (have eq1 := (hq _ (Nat.succ_ne_self _)).trans (cXk); go_simp)); go_simp; refine hK _ ?_; clear hK K)
                refine wpTk_nil ?_
                refine wpDs_step rfl (fun K hK => ?_)
                go_simp
                go_at_call 81
                with_reducible refine HLs.out.mono ?_
                rintro E8 w8 ⟨x1, x2, m, rfl, hz, rfl⟩
                refine hK _ _ (exc_set _ _ _ _ _) (wpDs_zero ?_)
                clear hK K
                have H7 : SolvS w3 n (v.1, v.2 || !cfin (csub (v.1 i) (cmul (M i k) (v.1 k)))) ((wr.drew.drewN m).setCell ⟨w3.heap.size, 0, none⟩ (.bool (v.2 || !cfin (csub (v.1 i) (cmul (M i k) (v.1 k)))))) := ((H.drewN 1).drewN m).setl _
                obtain ⟨w7, hw7⟩ : ∃ w7, w7 = (wr.drew.drewN m).setCell ⟨w3.heap.size, 0, none⟩ (.bool (v.2 || !cfin (csub (v.1 i) (cmul (M i k) (v.1 k))))) := ⟨_, rfl⟩
                rw [← hw7] at H7 ⊢
                clear hw7 cXi cXk cU cU2 p0 p2 fX S4 HLs hb
                obtain ⟨xj, cXj, -⟩ := H7.x hin
                have fXj := H7.xf i
                have H8 := H7.setx i (x1, x2)
                have e8 : (setX (v.1, v.2 || !cfin (csub (v.1 i) (cmul (M i k) (v.1 k)))).1 i (cv (x1, x2).1 (x1, x2).2), (v.1, v.2 || !cfin (csub (v.1 i) (cmul (M i k) (v.1 k)))).2) = fstepF M i k v := by
                  show (setX v.1 i (cv x1 x2), _) = _
                  rw [hz]
                  rfl
                rw [e8] at H8
                have hF3 := hid (show F2 = bwdF n M i (dstepF M i (rowF M i (n - (k + 1)) (k + 1) (fstepF M i k v))) by
                  rw [hF]
                  obtain ⟨m', hm⟩ : ∃ m', n - k = m' + 1 := ⟨n - k - 1, by omega⟩
                  have hm2 : n - (k + 1) = m' := by omega
                  rw [hm, hm2, rowF_succ])
                have hk1 : IntKind.i64.wrap ((k : Int) + 1) = (k : Int) + 1 := IntWalk.i64_in _ (by omega)
                clear H7 H hF e8 hz hyv hxi hxk
                go_wp2
                go_roundw
                case rel => exact ⟨k + 1, _, by go_num, Nat.lt_succ_of_lt hik, hkn, H8, hF3.out⟩
                case measure => simp [intOf]; omega
              · obtain rfl : n = k := by omega
                have g3 : ¬ (n : Int) < (n : Int) := by omega
                rw [Nat.sub_self] at hF
                have hF3 := hid (show F2 = bwdF n M i (dstepF M i v) from hF)
                clear hF
                obtain ⟨ua', uc', e1, hU⟩ := hsu3.cz
                cases e1
                obtain ⟨y, hy, hyv⟩ := partF_get hul hin hin
                obtain ⟨ub2, uo, rfl, cU3⟩ := hU _ y hy
                have hlt := World.block_lt_of_cell? _ _ cU3
                have cU := (Below.cell hb hlt).trans cU3
                rw [show uE M i i = M i i by unfold uE; rw [if_neg (by omega)]] at hyv
                have hql := (List.getElem?_eq_some_iff.1 hy).1
                obtain ⟨p, hp⟩ : ∃ p, p = i * n := ⟨_, rfl⟩
                obtain ⟨q, hq⟩ : ∃ q, q = p + i := ⟨_, rfl⟩
                have hmi : (i : Int) * (n : Int) = (p : Int) := by rw [hp]; push_cast; rfl
                have hmq : (p : Int) + (i : Int) = (q : Int) := by rw [hq]; push_cast; rfl
                rw [← hp, ← hq] at hql
                have cU2 : wr.cell? ⟨ub2, uo + q, none⟩ = some (.complex .f64 y.1 y.2) := by rw [hq, hp]; exact cU
                have hlt2 : ub2 < w3.heap.size := hlt
                replace hp := hid hp
                replace hq := hid hq
                have hq4 : q ≤ 4096 := by
                  have h1 : (i + 1) * n ≤ 64 * 64 := Nat.mul_le_mul (by omega) hn
                  rw [Nat.succ_mul] at h1
                  have := hp.out
                  have := hq.out
                  omega
                have hwp : IntKind.i64.wrap (p : Int) = (p : Int) := IntWalk.i64_in _ (by have := hq.out; omega)
                have hwq : IntKind.i64.wrap (q : Int) = (q : Int) := IntWalk.i64_in _ (by omega)
                have gq : (q : Int) < (ul.length : Int) := by omega
                obtain ⟨xi, cXi, hxi⟩ := H.x hin
                have fX := H.xf i
                have HLs : Hid (Calls Try.prog 82 #[.pointer (some ⟨w3.heap.size, 0, none⟩), .complex .f64 xi.1 xi.2, .complex .f64 y.1 y.2] wr.drew (RetLess wr.drew w3.heap.size v.2 (cdiv (v.1 i) (M i i)))) := hid (by_any wr.drew w3.heap.size v.2 H.l H.lf _ _ _ _ _ _ hxi hyv)
                have hi2 : IntKind.i64.wrap ((i : Int) - 1) = (i : Int) - 1 := IntWalk.i64_in _ (by omega)
                go_upto_region 26 with (fail)
                refine wp_region_takesR (exc_ok w3.heap.size) 17 1 (by kernel_rfl) (by kernel_rfl) (fun _ _ _ _ _ h => h) ?_
                simp only [List.take_succ_cons, List.take_zero, List.drop_succ_cons, List.drop_zero]
                repeat (refine wpTk_reck rfl rfl (fun K hK => ?_); unfold Oper.gives; go_simp; refine hK _ ?_; clear hK K)
                (refine wpTk_load rfl rfl (fun K hK => ?_); refine ⟨.complex .f64 xi.1 xi.2, fun wq hq => ?_, ?_⟩; (· (have eq1 := (hq _ (Nat.succ_ne_self _)).trans (cXi); go_simp)); go_simp; refine hK _ ?_; clear hK K)
                repeat (refine wpTk_reck rfl rfl (fun K hK => ?_); unfold Oper.gives; go_simp; refine hK _ ?_; clear hK K)
                (refine wpTk_load rfl rfl (fun K hK => ?_); refine ⟨.slice (some ⟨ub2, uo, none⟩) ul.length uc, fun wq hq => ?_, ?_⟩; (· (have eq1 := (hq _ (Nat.ne_of_lt hsb)).trans (p2); go_simp)); go_simp; refine hK _ ?_; clear hK K)
                repeat (refine wpTk_reck rfl rfl (fun K hK => ?_); unfold Oper.gives; go_simp; refine hK _ ?_; clear hK K)
                (refine wpTk_load rfl rfl (fun K hK => ?_); refine ⟨.int .i64 n, fun wq hq => ?_, ?_⟩; (· (have eq1 := (hq _ (Nat.ne_of_lt hsb)).trans (p0); go_simp)); go_simp; refine hK _ ?_; clear hK K)
                repeat (refine wpTk_reck rfl rfl (fun K hK => ?_); unfold Oper.gives; go_simp; refine hK _ ?_; clear hK K)
                (refine wpTk_load rfl rfl (fun K hK => ?_); refine ⟨.complex .f64 y.1 y.2, fun wq hq => ?_, ?_⟩; (· (have eq1 := (hq _ (Nat.ne_of_lt hlt2)).trans (cU2); go_simp)); go_simp; refine hK _ ?_; clear hK K)
                refine wpTk_nil ?_
                refine wpDs_step rfl (fun K hK => ?_)
                go_simp
                go_at_call 82
                with_reducible refine HLs.out.mono ?_
                rintro E8 w8 ⟨x1, x2, m, rfl, hz, rfl⟩
                refine hK _ _ (exc_set _ _ _ _ _) (wpDs_zero ?_)
                clear hK K
                have H7 : SolvS w3 n (v.1, v.2 || !cfin (cdiv (v.1 i) (M i i))) ((wr.drew.drewN m).setCell ⟨w3.heap.size, 0, none⟩ (.bool (v.2 || !cfin (cdiv (v.1 i) (M i i))))) := ((H.drewN 1).drewN m).setl _
                obtain ⟨w7, hw7⟩ : ∃ w7, w7 = (wr.drew.drewN m).setCell ⟨w3.heap.size, 0, none⟩ (.bool (v.2 || !cfin (cdiv (v.1 i) (M i i)))) := ⟨_, rfl⟩
                rw [← hw7] at H7 ⊢
                clear hw7 cXi cU cU2 p0 p2 fX S4 HLs hb
                obtain ⟨xj, cXj, -⟩ := H7.x hin
                have fXj := H7.xf i
                have H8 := H7.setx i (x1, x2)
                have e8 : (setX (v.1, v.2 || !cfin (cdiv (v.1 i) (M i i))).1 i (cv (x1, x2).1 (x1, x2).2), (v.1, v.2 || !cfin (cdiv (v.1 i) (M i i))).2) = dstepF M i v := by
                  show (setX v.1 i (cv x1 x2), _) = _
                  rw [hz]
                  rfl
                rw [e8] at H8
                clear H7 H e8 hz hyv hxi
                go_wp2
                go_roundw
                case rel => exact ⟨i, _, rfl, Nat.le_of_lt hin, H8, hF3.out⟩
                case measure => simp [intOf]
  · have he1 : ¬ (e : Int) = 0 := he0
    have hGe := hid (show G = (e, fun _ => (none, none)) by
      rw [hG.out]
      unfold solF
      rw [← he.out, if_pos he0])
    clear hG he
    go_wp2_with (go_at_call 80; (with_reducible refine (HW.out _ _ _ _ hb2).mono ?_); rintro E3 w3 ⟨rfl, hb3⟩)
    go_ret2
    rw [hGe.out]
    exact ⟨_, rfl, bl2 hb2 hb3, .inl ⟨he0, rfl⟩⟩
end Go.Proofs.Ytgcakhmdmajplaa

