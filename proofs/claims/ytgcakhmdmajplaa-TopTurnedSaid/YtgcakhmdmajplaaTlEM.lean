/- lower.Of: a matrix eliminated. Condition: the matrix is square, at most 64 rows. phasor.work. Condition: the net was made. A net that netlist.Of made is one that the contracts ask for, plainly. No condition. -/
import Derived.Test.YtgcakhmdmajplaaTlD
import Derived.Test.YtgcakhmdmajplaaNOfM
import Derived.Test.YtgcakhmdmajplaaTpF
import Derived.Test.YtgcakhmdmajplaaTtAM
import Derived.Test.YtgcakhmdmajplaaTvG
import Derived.Test.YtgcakhmdmajplaaKitE1M
namespace Go.Proofs.Ytgcakhmdmajplaa
open Go.RowKit

def matOf (n : Nat) (D : List CV) : Nat → Nat → CV := fun i j => D.getD (i * n + j) (none, none)
def loG (n : Nat) : Nat → Nat → (Nat → Nat → CV) → (Nat → Nat) → Int → (Int × Int) × (Nat → Nat → CV) × (Nat → Nat) × Int
  | 0, _, M, od, sg => ((0, 0), M, od, sg)
  | f + 1, k, M, od, sg => if (stepF n M od sg k).1 ≠ 0 then (((stepF n M od sg k).1, (k : Int)), M, od, sg) else loG n f (k + 1) (stepF n M od sg k).2.1 (stepF n M od sg k).2.2.1 (stepF n M od sg k).2.2.2
/-- What lower.Of tells: the fault; the matrix, the order, the sign. -/
def lowF (n : Nat) (D : List CV) : (Int × Int) × (Nat → Nat → CV) × (Nat → Nat) × Int :=
  match D.findIdx? (fun z => !cfin z) with
  | some p => ((5, (p : Int)), fun _ _ => (none, none), id, 1)
  | none => loG n n 0 (matOf n D) id 1
def RetLow (w : World) (n : Nat) (r : (Int × Int) × (Nat → Nat → CV) × (Nat → Nat) × Int) (E : Ending) (w' : World) : Prop := ∃ v, E = .returned (.tuple #[v, .agg #[.int .i64 r.1.1, .int .i64 r.1.2]]) ∧ Below w.heap.size w w' ∧ ((r.1.1 ≠ 0 ∧ v = .pointer none) ∨ (r.1.1 = 0 ∧ (r.2.2.2 = 1 ∨ r.2.2.2 = -1) ∧ ∃ lb ρ rv ov rw rs, v = .pointer (some ⟨lb, 0, none⟩) ∧ LoR w.heap.size ρ w' lb n rv ov r.2.2.2 rw r.2.2.1 rs id n ∧ Ent rs n r.2.1))
theorem stepF_sg {n : Nat} {M : Nat → Nat → CV} {od : Nat → Nat} {sg : Int} {k : Nat} (h : sg = 1 ∨ sg = -1) : (stepF n M od sg k).2.2.2 = 1 ∨ (stepF n M od sg k).2.2.2 = -1 := by
  unfold stepF
  dsimp only
  split
  · exact h
  · dsimp only
    split
    · exact h
    · omega
theorem RS.mono {B B' : Nat} {ρ : Nat → Rw} {w : World} (h : RS B ρ w) (hb : B' ≤ B) : RS B' ρ w := ⟨fun i => own_mono (h.own i) hb, h.ap⟩
theorem LoR.mono {B B' : Nat} {ρ : Nat → Rw} {w : World} {lb n : Nat} {rv ov : Value} {sg : Int} {rw : Nat → Value} {od : Nat → Nat} {rs : Nat → List Z} (h : LoR B ρ w lb n rv ov sg rw od rs id n) (hb : B' ≤ B) : LoR B' ρ w lb n rv ov sg rw od rs id n := ⟨h.own.mono hb, h.st, h.rows, h.order, h.row⟩
theorem LoR.same {B : Nat} {ρ : Nat → Rw} {w w' : World} {lb n : Nat} {rv ov : Value} {sg : Int} {rw : Nat → Value} {od : Nat → Nat} {rs : Nat → List Z} (h : LoR B ρ w lb n rv ov sg rw od rs id n) (hs : RS B ρ w') : LoR B ρ w' lb n rv ov sg rw od rs id n := ⟨hs, h.st, h.rows, h.order, h.row⟩
theorem ent_start {l : List Z} {n : Nat} (hl : l.length = n * n) : Ent (rowZ l n) n (matOf n (l.map zv)) := by
  intro i hi j hj
  have h1 : (i + 1) * n ≤ n * n := Nat.mul_le_mul_right n hi
  rw [Nat.succ_mul] at h1
  have h2 : i * n + j < l.length := by omega
  refine ⟨l[i * n + j]'h2, ?_, ?_⟩
  · unfold rowZ
    rw [List.getElem?_take_of_lt hj, List.getElem?_drop, List.getElem?_eq_getElem h2]
  · unfold matOf
    rw [List.getD_eq_getElem?_getD, List.getElem?_map, List.getElem?_eq_getElem h2]
    rfl
set_option maxRecDepth 100000 in
set_option maxHeartbeats 4000000 in
/-- matrix.Check of a square matrix. -/
theorem MCheck_sq (w : World) (n : Nat) (hn : n ≤ 64) (a : Option Addr) (len cap : Nat) (hl : len = n * n) : Calls Try.prog 85 #[.agg #[.int .i64 n, .int .i64 n, .slice a len cap]] w fun E w' => E = .returned (.int .i64 0) ∧ Below w.heap.size w w' := by
  have g1 : ¬ ((n : Int) < 0) := by omega
  have g2 : ¬ ((64 : Int) < (n : Int)) := by omega
  have hmi : (n : Int) * (n : Int) = (len : Int) := by rw [hl]; push_cast; rfl
  have hll : len ≤ 4096 := by
    have := Nat.mul_le_mul hn hn
    omega
  have hwp : IntKind.i64.wrap (len : Int) = (len : Int) := IntWalk.i64_in _ (by omega)
  clear hl
  go_enter Try.func85, Try.ntmps85
  go_wp2
  go_ret
  exact ⟨rfl, bl_a _ _⟩
def FinLoop (w1 : World) (l : List Z) (i : Value) (wr : World) : Prop := ∃ (p nd : Nat), i = .int .i64 p ∧ p ≤ l.length ∧ wr = w1.drewN nd ∧ ∀ q z, q < p → l[q]? = some z → cfin (zv z) = true
theorem RS.setLow {B : Nat} {ρ : Nat → Rw} {w : World} (h : RS B ρ w) {p : Addr} (hp : p.block < B) (v : Value) : RS B ρ (w.setCell p v) := by
  refine ⟨fun i => ?_, h.ap⟩
  obtain ⟨h1, h2⟩ := h.own i
  refine ⟨h1, ?_⟩
  rcases h2 with h2 | ⟨g, cap, cur, e, hg, hh, r⟩
  · exact .inl h2
  · refine .inr ⟨g, cap, cur, e, hg, ?_, r⟩
    have hne : p.block ≠ g := by omega
    simp [World.setCell, Array.getElem?_modify, hne]
    exact hh
def LowLoop (w : World) (n : Nat) (G : (Int × Int) × (Nat → Nat → CV) × (Nat → Nat) × Int) (lb : Nat) (i : Value) (wr : World) : Prop := ∃ (B k : Nat) (ρ : Nat → Rw) (rv ov : Value) (rw : Nat → Value) (rs : Nat → List Z) (M : Nat → Nat → CV) (od : Nat → Nat) (sg : Int), i = .int .i64 k ∧ k ≤ n ∧ LoR B ρ wr lb n rv ov sg rw od rs id n ∧ Ent rs n M ∧ (sg = 1 ∨ sg = -1) ∧ G = loG n (n - k) k M od sg ∧ FltAt wr (w.heap.size + 1) 0 0 ∧ Below w.heap.size w wr ∧ w.heap.size + 2 ≤ B ∧ B ≤ wr.heap.size
theorem finIx_some {l : List Z} {p : Nat} {z : Z} (hz : l[p]? = some z) (hn : cfin (zv z) = false) (h : ∀ q z, q < p → l[q]? = some z → cfin (zv z) = true) : (l.map zv).findIdx? (fun z => !cfin z) = some p := by
  have hp := (List.getElem?_eq_some_iff.1 hz).1
  rw [List.findIdx?_eq_some_iff_getElem]
  refine ⟨by simpa using hp, ?_, fun j hj => ?_⟩
  · rw [List.getElem_map, (List.getElem?_eq_some_iff.1 hz).2, hn]
    rfl
  · rw [List.getElem_map, h j _ hj (List.getElem?_eq_getElem (by omega))]
    decide
theorem finIx_none {l : List Z} (h : ∀ q z, q < l.length → l[q]? = some z → cfin (zv z) = true) : (l.map zv).findIdx? (fun z => !cfin z) = none := by
  rw [List.findIdx?_eq_none_iff]
  intro x hx
  obtain ⟨z, hz, rfl⟩ := List.mem_map.1 hx
  obtain ⟨q, hq⟩ := List.getElem?_of_mem hz
  rw [h q z (List.getElem?_eq_some_iff.1 hq).1 hq]
  rfl
set_option maxRecDepth 100000 in
set_option maxHeartbeats 4000000 in
theorem LowOf_any (w : World) (n : Nat) (hn : n ≤ 64) (l : List Z) (hl : l.length = n * n) (dv : Value) (hs : Sl w dv (l.map C)) :
    Calls Try.prog 78 #[.agg #[.int .i64 n, .int .i64 n, dv]] w (RetLow w n (lowF n (l.map zv))) := by
  obtain ⟨a, cap, rfl, hc⟩ := hs.cz
  replace hl := hid hl
  obtain ⟨G, hG⟩ : ∃ G, G = lowF n (l.map zv) := ⟨_, rfl⟩
  rw [← hG]
  replace hG := hid hG
  have b2 : Below w.heap.size w ((w.alloc (.cells #[.int .i64 n, .int .i64 n, .slice a l.length cap] 35)).alloc (.cells #[.int .i64 0, .int .i64 0] 29)) := bla _ (bla _ (Below.refl _ _))
  have F2 : FltAt ((w.alloc (.cells #[.int .i64 n, .int .i64 n, .slice a l.length cap] 35)).alloc (.cells #[.int .i64 0, .int .i64 0] 29)) (w.heap.size + 1) 0 0 := flt_n _ 0 0 (by simp)
  have s2 : ((w.alloc (.cells #[.int .i64 n, .int .i64 n, .slice a l.length cap] 35)).alloc (.cells #[.int .i64 0, .int .i64 0] 29)).heap.size = w.heap.size + 2 := by simp
  have HCk := hid fun w => MCheck_sq w n hn a l.length cap hl.out
  go_enter Try.func78, Try.ntmps78
  go_upto_region 1 with (fail)
  have M2 : MxAt ((w.alloc (.cells #[.int .i64 n, .int .i64 n, .slice a l.length cap] 35)).alloc (.cells #[.int .i64 0, .int .i64 0] 29)) w.heap.size n n (.slice a l.length cap) := MxAt.below (blk_new _ _) (bl_a _ _)
  obtain ⟨w2, hw2⟩ : ∃ w2, w2 = ((w.alloc (.cells #[.int .i64 n, .int .i64 n, .slice a l.length cap] 35)).alloc (.cells #[.int .i64 0, .int .i64 0] 29)) := ⟨_, rfl⟩
  rw [← hw2] at b2 F2 s2 M2 ⊢
  clear hw2
  have s3 : w.heap.size + 2 ≤ w2.heap.size := by omega
  clear s2
  have m0 := M2.c0
  have m1 := M2.c1
  have m2 := M2.c2
  go_upto_region 3 with (first | (go_at_call 85; (with_reducible refine (HCk.out _).mono ?_); rintro E3 w3 ⟨rfl, hb3⟩; have M3 : MxAt w3 w.heap.size n n (.slice a l.length cap) := (hb3.block w.heap.size (by omega)).trans M2; have n0 := M3.c0; have n1 := M3.c1; have n2 := M3.c2))
  have b3 := bl2 b2 hb3
  have F3 := flt_b F2 hb3
  have s4 : w.heap.size + 2 ≤ w3.heap.size := Nat.le_trans s3 hb3.size
  have hs3 := hs.below b3
  clear m0 m1 m2 n0 n1 M2 F2 s3 hb3 b2 HCk hs hc
  have hll : l.length ≤ 4096 := by
    have := Nat.mul_le_mul hn hn
    have := hl.out
    omega
  go_wp2
  go_loopw [23] (fun i w' => FinLoop w3 l i w') (fun i _ => l.length + 1 - (intOf i).toNat)
  case atStart => exact ⟨0, 0, rfl, Nat.zero_le _, rfl, fun q z hq => absurd hq (Nat.not_lt_zero _)⟩
  case round =>
    obtain ⟨p, nd, rfl, hp, rfl, hfin⟩ := hrel
    by_cases hpn : p < l.length
    · have g6 : (p : Int) < (l.length : Int) := by omega
      obtain ⟨z, hz⟩ : ∃ z, l[p]? = some z := ⟨l[p]'hpn, List.getElem?_eq_getElem hpn⟩
      obtain ⟨a', cap', e, hc⟩ := hs3.cz
      cases e
      obtain ⟨b, off, rfl, cz0⟩ := hc p z hz
      have cz : (w3.drewN nd).cell? ⟨b, off + p, none⟩ = some (.complex .f64 z.1 z.2) := cz0
      have HFi : Hid (∀ w, Calls Try.prog 61 #[.complex .f64 z.1 z.2] w (RetB w (cfin (zv z)))) := hid fun w => Finite_q z.1 z.2 (zv z) rfl w
      cases hcf : cfin (zv z) with
      | false =>
        have hGe : G = ((5, (p : Int)), fun _ _ => (none, none), id, 1) := by
          rw [hG.out]
          unfold lowF
          rw [finIx_some hz hcf hfin]
        replace hGe := hid hGe
        rw [hcf] at HFi
        have f0 := F3.c0
        have f1 := F3.c1
        have f2 := F3.fr 0
        have f3 := F3.fr 1
        clear hc hz cz0 hfin hG hcf hs3
        go_wp2_with (first | (go_at_call 61; (with_reducible refine (HFi.out _).mono ?_); rintro E6 w6 ⟨rfl, ⟨n6, rfl⟩⟩))
        refine bodyPost_ret (results_flt rfl _ _ (w.heap.size + 1) 5 p rfl (FltAt.set2 (show FltAt (w3.drewN (nd + n6)) (w.heap.size + 1) 0 0 from F3) _ _)) rfl ?_
        rw [hGe.out]
        exact ⟨.pointer none, rfl, below_set2 (below_drewN' b3 _) _ _ (Nat.le_succ _), .inl ⟨(show (5 : Int) ≠ 0 by decide), rfl⟩⟩
      | true =>
        rw [hcf] at HFi
        have hfin2 : Hid (∀ q z, q < p + 1 → l[q]? = some z → cfin (zv z) = true) := hid (by
          intro q y hq hy
          rcases Nat.lt_or_ge q p with h | h
          · exact hfin q y h hy
          · obtain rfl : q = p := by omega
            rw [hz] at hy
            rw [← Option.some.inj hy]
            exact hcf)
        clear hc hz cz0 hfin hG hcf hs3
        go_wp2_with (first | (go_at_call 61; (with_reducible refine (HFi.out _).mono ?_); rintro E6 w6 ⟨rfl, ⟨n6, rfl⟩⟩))
        go_roundw
        case rel => exact ⟨p + 1, _, by go_num, hpn, rfl, hfin2.out⟩
        case measure => simp [intOf]; omega
    · obtain rfl : p = l.length := by omega
      have g6 : ¬ (l.length : Int) < (l.length : Int) := by omega
      have hGe : G = loG n n 0 (matOf n (l.map zv)) id 1 := by
        rw [hG.out]
        unfold lowF
        rw [finIx_none hfin]
      replace hGe := hid hGe
      clear hG hfin
      have HS := start_any (w3.drewN nd) n hn l hl.out (.slice a l.length cap) (hs3.drewN nd)
      obtain ⟨w4, hw4⟩ : ∃ w4, w4 = w3.drewN nd := ⟨_, rfl⟩
      have M4 : MxAt w4 w.heap.size n n (.slice a l.length cap) := by rw [hw4]; exact M3
      have F4 : FltAt w4 (w.heap.size + 1) 0 0 := by rw [hw4]; exact F3
      have b4 : Below w.heap.size w w4 := by rw [hw4]; exact below_drewN' b3 _
      have s5 : w.heap.size + 2 ≤ w4.heap.size := by rw [hw4]; exact s4
      rw [← hw4] at HS ⊢
      clear hw4 hs3 M3 F3 b3 s4 n2
      have o0 := M4.c0
      have o1 := M4.c1
      have o2 := M4.c2
      go_upto_region 10 with (first | (go_at_call 86; (with_reducible refine HS.mono ?_); rintro E5 w5 ⟨lb, ρ, rv, ov, rw, rfl, H5, hb5⟩))
      obtain ⟨ra, rc, rfl, -⟩ := own_cap (H5.own.at H5.rows)
      have e1 := H5.own.cell H5.st (j := 1) rfl
      have F5 := flt_b F4 hb5
      have b5 := bl2 b4 hb5
      have l5 : w4.heap.size ≤ w5.heap.size := hb5.size
      clear o0 o1 o2 HS M4 F4 b4 hb5
      go_wp2
      go_loopw [41] (fun i w' => LowLoop w n G lb i w') (fun i _ => n + 1 - (intOf i).toNat)
      case atStart => exact ⟨_, 0, ρ, _, _, _, _, _, _, _, rfl, Nat.zero_le _, H5, ent_start hl.out, .inl rfl, hGe.out, F5, b5, s5, l5⟩
      case round =>
        obtain ⟨B, k, ρk, rv, ov, rw, rs, M, od, sg, rfl, hk, Hk, hE, hsg, hGk, Fk, bk, hB2, hBw⟩ := hrel
        clear H5 e1 F5 b5 s5 l5 hGe
        by_cases hkn : k < n
        · have g7 : (k : Int) < (n : Int) := by omega
          have HSt := step_any wr B lb n k ρk rv ov sg rw od rs M Hk hE hkn hn hBw hsg
          obtain ⟨S, hS⟩ : ∃ S, S = stepF n M od sg k := ⟨_, rfl⟩
          rw [← hS] at HSt
          obtain ⟨m, hm⟩ : ∃ m, n - k = m + 1 := ⟨n - k - 1, by omega⟩
          have hm2 : n - (k + 1) = m := by omega
          have hsg2 := stepF_sg (n := n) (M := M) (od := od) (k := k) hsg
          rw [hm] at hGk
          have hGk2 : G = if S.1 ≠ 0 then ((S.1, (k : Int)), M, od, sg) else loG n m (k + 1) S.2.1 S.2.2.1 S.2.2.2 := by rw [hGk, hS]; rfl
          rw [← hS] at hsg2
          clear hGk hS
          obtain ⟨s1, s2⟩ := S
          by_cases he : s1 = 0
          · subst he
            rw [if_neg (by simp)] at hGk2
            replace hGk2 := hid hGk2
            go_wp2_with (first | (go_at_call 87; (with_reducible refine HSt.mono ?_); rintro E6 w6 ⟨rfl, hb6, hok⟩; replace hok := hid hok))
            obtain ⟨ρ', rv', ov', rw', rs', H', hE'⟩ := hok.out trivial
            have F6 := Fk.below hb6 (show w.heap.size + 1 < B by omega)
            have b6 := bk.trans (hb6.mono (show w.heap.size ≤ B by omega))
            have l6 := Nat.le_trans hBw hb6.size
            go_roundw
            case rel => exact ⟨B, k + 1, ρ', _, _, _, _, _, _, _, by go_num, hkn, H', hE', hsg2, by rw [hm2]; exact hGk2.out, F6, b6, hB2, l6⟩
            case measure => simp [intOf]; omega
          · rw [if_pos he] at hGk2
            replace hGk2 := hid hGk2
            have he2 : ¬ (s1 : Int) = 0 := he
            go_wp2_with (first | (go_at_call 87; (with_reducible refine HSt.mono ?_); rintro E6 w6 ⟨rfl, hb6, -⟩; have F6 := Fk.below hb6 (show w.heap.size + 1 < B by omega); have f0 := F6.c0; have f1 := F6.c1; have f2 := F6.fr 0; have f3 := F6.fr 1))
            refine bodyPost_ret (results_flt rfl _ _ (w.heap.size + 1) s1 k rfl (F6.set2 _ _)) rfl ?_
            rw [hGk2.out]
            exact ⟨.pointer none, rfl, below_set2 (bk.trans (hb6.mono (show w.heap.size ≤ B by omega))) _ _ (Nat.le_succ _), .inl ⟨he, rfl⟩⟩
        · obtain rfl : n = k := by omega
          have g7 : ¬ (n : Int) < (n : Int) := by omega
          rw [Nat.sub_self] at hGk
          have hGk2 := hid (show G = ((0, 0), M, od, sg) from hGk)
          clear hGk
          have f0 := Fk.c0
          have f1 := Fk.c1
          have f2 := Fk.fr 0
          have f3 := Fk.fr 1
          go_wp2
          refine bodyPost_ret (results_flt rfl _ _ (w.heap.size + 1) 0 0 rfl (Fk.set2 _ _)) rfl ?_
          rw [hGk2.out]
          exact ⟨_, rfl, below_set2 bk _ _ (Nat.le_succ _), .inr ⟨rfl, hsg, lb, ρk, rv, ov, rw, rs, rfl, (Hk.same ((Hk.own.setLow (by show w.heap.size + 1 < B; omega) _).setLow (by show w.heap.size + 1 < B; omega) _)).mono (by omega), hE⟩⟩
end Go.Proofs.Ytgcakhmdmajplaa

namespace Go.Proofs.Ytgcakhmdmajplaa
open Go.RowKit

/-- What the contracts ask of a made net, plainly. -/
structure Mn (L : List El) (nodes br ks : List ByteArray) : Prop where
  hh : hasS ks ⟨#[]⟩ = false
  hs : nodes.length + br.length ≤ 64
  hL : L.length ≤ 256
  hck : ∀ e ∈ L, checkE e = 0
  hbr : ∀ e ∈ L, brK e.kind = true → hasS br e.name = true
  hkw : ∀ e ∈ L, e.kind < 256 ∧ IsW e.v
  hnd : (zero8 :: nodes).Nodup
  hsz : ∀ x ∈ nodes, x.size ≤ 16
  hab : ∀ e ∈ L, hasS (zero8 :: nodes) e.a = true ∧ hasS (zero8 :: nodes) e.b = true ∧ e.a.size ≤ 16 ∧ e.b.size ≤ 16 ∧ e.kind < 256
  hnet : ∃ s, netF L = ((0, 0), some s)
theorem gndG_00 (up : List Nat) : ∀ n i, (gndG up i n).1 = 0 → gndG up i n = (0, 0)
  | 0, _, _ => rfl
  | n + 1, i, h => by
    unfold gndG at h ⊢
    split at h
    · rename_i h1
      rw [if_pos h1]
      exact gndG_00 up n _ h
    · cases h
theorem matG_00 (nodes br : List ByteArray) (x : Option Nat) : ∀ (L : List El) (k : Nat) (S : Bd), (matG nodes br x k S L).1.1 = 0 → (matG nodes br x k S L).1 = (0, 0)
  | [], _, _, _ => rfl
  | e :: r, k, S, h => by
    unfold matG at h ⊢
    by_cases h1 : admK e.kind = true ∧ recE true e x ≠ 0
    · rw [if_pos h1] at h
      exact absurd h h1.2
    · rw [if_neg h1] at h ⊢
      generalize stampE nodes br S e (if admK e.kind = true then recG true e x else (val 0, val 0)) = S' at h ⊢
      by_cases h2 : S'.over = true
      · rw [if_pos h2] at h
        cases h
      · rw [if_neg h2] at h ⊢
        exact matG_00 nodes br x r _ _ h
theorem matF_00 {nodes br : List ByteArray} {L : List El} {x : Option Nat} (h : (matF nodes br L x).1.1 = 0) : (matF nodes br L x).1 = (0, 0) ∧ (matF nodes br L x).2.length = (nodes.length + br.length) * (nodes.length + br.length) := by
  unfold matF at h ⊢
  split at h
  · rename_i h1
    rw [if_pos h1]
    split at h
    · rename_i h2
      rw [if_pos h2]
      exact ⟨rfl, by simp⟩
    · rename_i h2
      exact absurd h h2
  · rename_i h1
    exact absurd h h1
theorem loG_00 (n : Nat) : ∀ (f k : Nat) (M : Nat → Nat → CV) (od : Nat → Nat) (sg : Int), (loG n f k M od sg).1.1 = 0 → (loG n f k M od sg).1 = (0, 0)
  | 0, _, _, _, _, _ => rfl
  | f + 1, k, M, od, sg, h => by
    unfold loG at h ⊢
    split at h
    · rename_i h1
      exact absurd h h1
    · rename_i h1
      rw [if_neg h1]
      exact loG_00 n f _ _ _ _ h
theorem loG_od (n : Nat) (hn : n ≤ 64) : ∀ (f k : Nat) (M : Nat → Nat → CV) (od : Nat → Nat) (sg : Int), k + f = n → (∀ i, i < n → od i < n) → ∀ i, i < n → (loG n f k M od sg).2.2.1 i < n
  | 0, _, _, _, _, _, h => h
  | f + 1, k, M, od, sg, hk, h => by
    unfold loG
    split
    · exact h
    · exact loG_od n hn f (k + 1) _ _ _ (by omega) (stepF_od (by omega) hn h)
theorem lowF_00 {n : Nat} {D : List CV} (h : (lowF n D).1.1 = 0) : (lowF n D).1 = (0, 0) := by
  unfold lowF at h ⊢
  split at h
  · cases h
  · rename_i h1
    exact loG_00 n _ _ _ _ _ h
theorem lowF_od {n : Nat} (hn : n ≤ 64) {D : List CV} : ∀ i, i < n → (lowF n D).2.2.1 i < n := by
  unfold lowF
  split
  · exact fun i hi => hi
  · exact loG_od n hn n 0 _ _ _ (by omega) (fun i hi => hi)
/-- What work tells. -/
def wrkF (nodes br : List ByteArray) (L : List El) (x : Option Nat) : (Int × Int) × (Nat → Nat → CV) × (Nat → Nat) × Int :=
  if (gndF nodes L).1 ≠ 0 then (gndF nodes L, fun _ _ => (none, none), id, 1)
  else if (matF nodes br L x).1.1 ≠ 0 then ((matF nodes br L x).1, fun _ _ => (none, none), id, 1)
  else lowF (nodes.length + br.length) (matF nodes br L x).2
def RetWrk (w : World) (n : Nat) (r : (Int × Int) × (Nat → Nat → CV) × (Nat → Nat) × Int) (E : Ending) (w' : World) : Prop := ∃ (x y : Int) (va : Option Addr) (vn vc : Nat) (p : Option Addr), E = .returned (.tuple #[.agg #[.int .i64 x, .int .i64 y, .slice va vn vc, .pointer p], .agg #[.int .i64 r.1.1, .int .i64 r.1.2]]) ∧ Below w.heap.size w w' ∧ (r.1.1 = 0 → (r.2.2.2 = 1 ∨ r.2.2.2 = -1) ∧ ∃ lb, p = some ⟨lb, 0, none⟩ ∧ LoV w' lb n r.2.1 r.2.2.1 r.2.2.2)
/-- The box of what work tells. -/
def WrkB (w : World) (b : Nat) (x y : Int) (v p : Value) : Prop := w.heap[b]? = some (.cells #[.int .i64 x, .int .i64 y, v, p] 115 (0, 0))
section
variable {w w' : World} {b : Nat} {x y : Int} {v p : Value}
theorem WrkB.lt (h : WrkB w b x y v p) : b < w.heap.size := (Array.getElem?_eq_some_iff.1 h).1
theorem WrkB.below (h : WrkB w b x y v p) (hb : Below w.heap.size w w') : WrkB w' b x y v p := (hb.block b h.lt).trans h
theorem WrkB.c0 (h : WrkB w b x y v p) : w.cell? ⟨b, 0, none⟩ = some (.int .i64 x) := by unfold WrkB at h; simp [World.cell?, h]
theorem WrkB.c1 (h : WrkB w b x y v p) : w.cell? ⟨b, 1, none⟩ = some (.int .i64 y) := by unfold WrkB at h; simp [World.cell?, h]
theorem WrkB.c2 (h : WrkB w b x y v p) : w.cell? ⟨b, 2, none⟩ = some v := by unfold WrkB at h; simp [World.cell?, h]
theorem WrkB.c3 (h : WrkB w b x y v p) : w.cell? ⟨b, 3, none⟩ = some p := by unfold WrkB at h; simp [World.cell?, h]
theorem WrkB.fr (h : WrkB w b x y v p) (j : Nat) : w.frozen? ⟨b, j, none⟩ = false := by unfold WrkB at h; simp [World.frozen?, h]
theorem WrkB.set (h : WrkB w b x y v p) (x' y' : Int) (v' p' : Value) : WrkB ((((w.setCell ⟨b, 0, none⟩ (.int .i64 x')).setCell ⟨b, 1, none⟩ (.int .i64 y')).setCell ⟨b, 2, none⟩ v').setCell ⟨b, 3, none⟩ p') b x' y' v' p' := by
  unfold WrkB at *
  simp [World.setCell, Array.getElem?_modify, h]
theorem WrkB.other (h : WrkB w b x y v p) {a : Addr} (ha : b ≠ a.block) (u : Value) : WrkB (w.setCell a u) b x y v p := by
  unfold WrkB at *
  have := Ne.symm ha
  simp [World.setCell, Array.getElem?_modify, this, h]
end
theorem results_wrk {fn : Func} {p q : Tmp} (h : fn.results = #[.cell p 115, .cell q 29]) (tmps : Array Value) (w : World) (b d : Nat) (x y f g : Int) (v r : Value) (hp : tmps.getD p undef = .pointer (some ⟨b, 0, none⟩)) (hq : tmps.getD q undef = .pointer (some ⟨d, 0, none⟩)) (hw : WrkB w b x y v r) (hf : FltAt w d f g) :
    (results fn tmps).run Try.prog w = .ok (.tuple #[.agg #[.int .i64 x, .int .i64 y, v, r], .agg #[.int .i64 f, .int .i64 g]]) w := by
  have c0 := hw.c0
  have c1 := hw.c1
  have c2 := hw.c2
  have c3 := hw.c3
  have d0 := hf.c0
  have d1 := hf.c1
  simp only [Array.getD_eq_getD_getElem?] at hp hq ⊢
  simp [results, h, hp, hq, go_sem, c0, c1, c2, c3, d0, d1, Sem.run_bind, Result.andThen]
/-- The two results, stored. -/
theorem wrk_end {w w3 : World} {x y f g : Int} {v p : Value} (W : WrkB w3 w.heap.size x y v p) (F : FltAt w3 (w.heap.size + 1) f g) (b : Below w.heap.size w w3) (x' y' : Int) (v' p' : Value) (f' g' : Int) : ∃ w4, w4 = ((((((w3.setCell ⟨w.heap.size, 0, none⟩ (.int .i64 x')).setCell ⟨w.heap.size, 1, none⟩ (.int .i64 y')).setCell ⟨w.heap.size, 2, none⟩ v').setCell ⟨w.heap.size, 3, none⟩ p').setCell ⟨w.heap.size + 1, 0, none⟩ (.int .i64 f')).setCell ⟨w.heap.size + 1, 1, none⟩ (.int .i64 g')) ∧ WrkB w4 w.heap.size x' y' v' p' ∧ FltAt w4 (w.heap.size + 1) f' g' ∧ Below w.heap.size w w4 := by
  have W1 := W.set x' y' v' p'
  have F1 := (((F.other (a := ⟨w.heap.size, 0, none⟩) (Nat.succ_ne_self _) (.int .i64 x')).other (a := ⟨w.heap.size, 1, none⟩) (Nat.succ_ne_self _) (.int .i64 y')).other (a := ⟨w.heap.size, 2, none⟩) (Nat.succ_ne_self _) v').other (a := ⟨w.heap.size, 3, none⟩) (Nat.succ_ne_self _) p'
  refine ⟨_, rfl, (W1.other (a := ⟨w.heap.size + 1, 0, none⟩) (Nat.succ_ne_self _).symm _).other (a := ⟨w.heap.size + 1, 1, none⟩) (Nat.succ_ne_self _).symm _, F1.set2 f' g', ?_⟩
  exact (((((b.setCell (Nat.le_refl _) _).setCell (Nat.le_refl _) _).setCell (Nat.le_refl _) _).setCell (Nat.le_refl _) _).setCell (Nat.le_succ _) _).setCell (Nat.le_succ _) _
end Go.Proofs.Ytgcakhmdmajplaa

namespace Go.Proofs.Ytgcakhmdmajplaa
open Go.RowKit

structure GoodM (s : NetS) : Prop where
  nd : (zero8 :: s.nodes).Nodup
  sz : ∀ x ∈ s.nodes, x.size ≤ 16
  ab : ∀ e ∈ s.l, e.a ∈ zero8 :: s.nodes ∧ e.b ∈ zero8 :: s.nodes ∧ e.a.size ≤ 16 ∧ e.b.size ≤ 16
  ck : ∀ e ∈ s.l, checkE e = 0
  br : ∀ e ∈ s.l, brK e.kind = true → e.name ∈ s.br
/-- What one more name keeps. -/
def GoodP (ns : List ByteArray) : Prop := (zero8 :: ns).Nodup ∧ ∀ x ∈ ns, x.size ≤ 16
theorem list_of_size {x : ByteArray} (h : x.toList = []) : x.size = 0 := by
  rw [ByteArray.toList_eq] at h
  have h2 := congrArg List.length h
  have h4 : x.data.toList.length = x.size := Array.length_toList
  rw [h4] at h2
  exact h2
theorem nodeS_size {x : ByteArray} (h : nodeS x = true) : 0 < x.size ∧ x.size ≤ 16 := by
  unfold nodeS at h
  simp only [Bool.and_eq_true, decide_eq_true_eq] at h
  exact h.1
theorem checkE_parts {e : El} (h : checkE e = 0) : okK e.kind = true ∧ namedE e = true ∧ argE e = false ∧ ¬ 2 < kindF e.v ∧ (abK e.kind && fle (val e.v) (val 0)) = false := by
  unfold checkE at h
  split at h
  · rename_i h1
    split at h
    · rename_i h2
      split at h
      · cases h
      · rename_i h3
        split at h
        · cases h
        · rename_i h4
          split at h
          · cases h
          · rename_i h5
            exact ⟨h1, h2, by simpa using h3, h4, by simpa using h5⟩
    · cases h
  · cases h
theorem checkE_szs {e : El} (h : checkE e = 0) : (0 < e.a.size ∧ e.a.size ≤ 16) ∧ (0 < e.b.size ∧ e.b.size ≤ 16) ∧ e.c.size ≤ 16 ∧ e.d.size ≤ 16 := by
  obtain ⟨-, h2, h3, -, -⟩ := checkE_parts h
  unfold namedE at h2
  simp only [Bool.and_eq_true, decide_eq_true_eq] at h2
  obtain ⟨⟨⟨-, ha⟩, hb⟩, hf⟩ := h2
  refine ⟨nodeS_size ha, nodeS_size hb, ?_⟩
  cases h4 : fourK e.kind with
  | true =>
    rw [h4] at hf
    simp only [Bool.not_true, Bool.false_or, Bool.and_eq_true] at hf
    exact ⟨(nodeS_size hf.1).2, (nodeS_size hf.2).2⟩
  | false =>
    unfold argE at h3
    rw [h4] at h3
    simp only [Bool.not_false, Bool.true_and, Bool.or_eq_false_iff, bne_eq_false_iff_eq] at h3
    have hc := list_of_size h3.1.2.1
    have hd := list_of_size h3.1.2.2
    omega
theorem GoodP.put {ns : List ByteArray} (h : GoodP ns) {x : ByteArray} (hx : x.size ≤ 16) : GoodP (putNode ns x) := by
  unfold putNode
  split
  · rename_i hn
    unfold newNode at hn
    simp only [Bool.and_eq_true, Bool.not_eq_true', bne_iff_ne, ne_eq] at hn
    obtain ⟨⟨h1, h2⟩, h3⟩ := hn
    have hne : x ∉ ns := fun hm => by
      rw [hasS_iff.2 hm] at h1
      cases h1
    have hnz : x ≠ zero8 := fun e => h3 (by rw [e, ByteArray.toList_eq]; rfl)
    obtain ⟨hnd, hsz⟩ := h
    rw [List.nodup_cons] at hnd
    refine ⟨?_, ?_⟩
    · rw [List.nodup_cons]
      refine ⟨fun hm => ?_, ?_⟩
      · rcases List.mem_append.1 hm with hm | hm
        · exact hnd.1 hm
        · exact hnz (List.mem_singleton.1 hm).symm
      · rw [List.nodup_append]
        refine ⟨hnd.2, by simp, ?_⟩
        intro a ha b hb
        rw [List.mem_singleton.1 hb]
        exact fun e => hne (by rw [← e]; exact ha)
    · intro y hy
      rcases List.mem_append.1 hy with hy | hy
      · exact hsz y hy
      · rw [List.mem_singleton.1 hy]
        exact hx
  · exact h
theorem putNode_keep {ns : List ByteArray} {x y : ByteArray} (h : y ∈ zero8 :: ns) : y ∈ zero8 :: putNode ns x := by
  unfold putNode
  split
  · rw [← List.cons_append]
    exact List.mem_append_left _ h
  · exact h
theorem putNode_mem {ns : List ByteArray} {x : ByteArray} (h : 0 < x.size) : x ∈ zero8 :: putNode ns x := by
  unfold putNode
  split
  · exact List.mem_cons_of_mem _ (List.mem_append_right _ (List.mem_singleton.2 rfl))
  · rename_i hn
    unfold newNode at hn
    cases h1 : hasS ns x with
    | true => exact List.mem_cons_of_mem _ (hasS_iff.1 h1)
    | false =>
      rw [h1] at hn
      cases h2 : (x.toList == [48]) with
      | true =>
        have hz := (zero_iff x).1 h2
        rw [hz]
        exact List.mem_cons_self ..
      | false =>
        exfalso
        apply hn
        have h4 : x.toList ≠ [] := fun e => by have := list_of_size e; omega
        have h5 : x.toList ≠ [48] := fun e => by rw [e] at h2; exact absurd h2 (by decide)
        simp [h4, h5]
theorem GoodM.put {s : NetS} (h : GoodM s) {e : El} (hc : checkE e = 0) : GoodM (putN s e) := by
  obtain ⟨⟨a1, a2⟩, ⟨b1, b2⟩, c2, d2⟩ := checkE_szs hc
  have P0 : GoodP s.nodes := ⟨h.nd, h.sz⟩
  have P := (((P0.put a2).put b2).put c2).put d2
  have keep : ∀ y, y ∈ zero8 :: s.nodes → y ∈ zero8 :: (putN s e).nodes := fun y hy => putNode_keep (putNode_keep (putNode_keep (putNode_keep hy)))
  refine ⟨P.1, P.2, ?_, ?_, ?_⟩
  · intro x hx
    rcases List.mem_append.1 hx with hx | hx
    · obtain ⟨h1, h2, h3, h4⟩ := h.ab x hx
      exact ⟨keep _ h1, keep _ h2, h3, h4⟩
    · rw [List.mem_singleton.1 hx]
      exact ⟨putNode_keep (putNode_keep (putNode_keep (putNode_mem a1))), putNode_keep (putNode_keep (putNode_mem b1)), a2, b2⟩
  · intro x hx
    rcases List.mem_append.1 hx with hx | hx
    · exact h.ck x hx
    · rw [List.mem_singleton.1 hx]
      exact hc
  · intro x hx hk
    show x.name ∈ if brK e.kind = true then s.br ++ [e.name] else s.br
    rcases List.mem_append.1 hx with hx | hx
    · have := h.br x hx hk
      split
      · exact List.mem_append_left _ this
      · exact this
    · rw [List.mem_singleton.1 hx] at hk ⊢
      rw [if_pos hk]
      exact List.mem_append_right _ (List.mem_singleton.2 rfl)
theorem netG_goodM : ∀ (L : List El) (s s' : NetS) (i : Nat), netG s i L = .inr s' → GoodM s → GoodM s'
  | [], s, s', i, h, g => by
    simp [netG] at h
    rw [← h]
    exact g
  | e :: r, s, s', i, h, g => by
    unfold netG at h
    split at h
    · rename_i hc
      split at h
      · cases h
      · exact netG_goodM r _ _ _ h (g.put hc)
    · cases h
theorem netF_mn {L : List El} {f : Int × Int} {s : NetS} (h : netF L = (f, some s)) (hkw : ∀ e ∈ L, e.kind < 256 ∧ IsW e.v) : Mn s.l s.nodes s.br (nmL s.l) := by
  obtain ⟨g, -, h64, h256⟩ := netF_good h
  obtain ⟨rfl, hl⟩ := netF_some h
  have hM : GoodM s := by
    have h' := h
    unfold netF at h'
    split at h'
    · simp at h'
    · split at h'
      · simp at h'
      · rename_i s' hg
        split at h'
        · simp at h'
        · simp at h'
          obtain rfl := h'
          exact netG_goodM _ _ _ _ hg ⟨by simp [net0], by simp [net0], by simp [net0], by simp [net0], by simp [net0]⟩
  have hz : ∀ {x}, x ∈ zero8 :: s.nodes → hasS (zero8 :: s.nodes) x = true := fun h => hasS_iff.2 h
  refine ⟨g.e, h64, by rw [hl]; exact h256, hM.ck, fun e he hk => hasS_iff.2 (hM.br e he hk), by rw [hl]; exact hkw, hM.nd, hM.sz, fun e he => ?_, ⟨s, by rw [hl]; exact h⟩⟩
  obtain ⟨h1, h2, h3, h4⟩ := hM.ab e he
  exact ⟨hz h1, hz h2, h3, h4, (hkw e (by rw [← hl]; exact he)).1⟩
end Go.Proofs.Ytgcakhmdmajplaa
