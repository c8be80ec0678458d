/- turns: constant, cosine, Root, Phasor; source.Phasor. Conditions: steps from 0 to 6, 0 to 23; none; the element passed its check. source.none, put. Conditions: the net was made; the list holds its nodes' places. -/
import Derived.Test.YtgcakhmdmajplaaTlCM
import Derived.Test.YtgcakhmdmajplaaTpB
import Derived.Test.YtgcakhmdmajplaaNChk
import Derived.Test.YtgcakhmdmajplaaTvBM
import Derived.Test.YtgcakhmdmajplaaTgDM
namespace Go.Proofs.Ytgcakhmdmajplaa
open Go.RowKit

def conB : Nat → Nat
  | 0 => 4607182418800017408
  | 1 => 4606875505927962389
  | 2 => 4605975682916830378
  | 3 => 4604544271217802189
  | 4 => 4602678819172646912
  | 5 => 4598334089338226320
  | _ => 0
def cosB (k : Nat) : Nat := if 17 < k then conB (24 - k) else if 12 < k then negB (conB (k - 12)) else if 6 < k then negB (conB (12 - k)) else conB k
def turnN (k : Int) : Nat := ((k.tmod 24 + 24).tmod 24).toNat
def RetFl (w : World) (x : Nat) (E : Ending) (w' : World) : Prop := E = .returned (.float .f64 x) ∧ w = w'
theorem constant_any (k : Nat) (hk : k ≤ 6) (w : World) : Calls Try.prog 102 #[.int .i64 k] w (RetFl w (conB k)) := by
  have h7 : k = 0 ∨ k = 1 ∨ k = 2 ∨ k = 3 ∨ k = 4 ∨ k = 5 ∨ k = 6 := by omega
  rcases h7 with rfl | rfl | rfl | rfl | rfl | rfl | rfl
  all_goals
    unfold conB
    go_enter Try.func102, Try.ntmps102
    go_wp2
    go_ret
    exact ⟨rfl, rfl⟩
theorem constant_i (j : Int) (k : Nat) (hj : j = (k : Int)) (hk : k ≤ 6) (w : World) : Calls Try.prog 102 #[.int .i64 j] w (RetFl w (conB k)) := hj ▸ constant_any k hk w
set_option maxRecDepth 100000 in
theorem cosine_any (k : Nat) (hk : k < 24) (w : World) : Calls Try.prog 95 #[.int .i64 k] w (RetFl w (cosB k)) := by
  unfold cosB
  by_cases h1 : 17 < k
  · have g1 : (17 : Int) < (k : Int) := by omega
    have HC := hid fun w => constant_i (24 - (k : Int)) (24 - k) (by omega) (by omega) w
    have hw : IntKind.i64.wrap (24 - (k : Int)) = 24 - (k : Int) := IntWalk.i64_in _ (by omega)
    rw [if_pos h1]
    go_enter Try.func95, Try.ntmps95
    go_wp2_with (go_at_call 102; (with_reducible refine (HC.out _).mono ?_); rintro E1 w1 ⟨rfl, rfl⟩)
    go_ret
    exact ⟨rfl, rfl⟩
  · have g1 : ¬ (17 : Int) < (k : Int) := by omega
    rw [if_neg h1]
    by_cases h2 : 12 < k
    · have g2 : (12 : Int) < (k : Int) := by omega
      have HC := hid fun w => constant_i ((k : Int) - 12) (k - 12) (by omega) (by omega) w
      have hw : IntKind.i64.wrap ((k : Int) - 12) = (k : Int) - 12 := IntWalk.i64_in _ (by omega)
      rw [if_pos h2]
      go_enter Try.func95, Try.ntmps95
      go_wp2_with (go_at_call 102; (with_reducible refine (HC.out _).mono ?_); rintro E1 w1 ⟨rfl, rfl⟩)
      go_ret
      exact ⟨rfl, rfl⟩
    · have g2 : ¬ (12 : Int) < (k : Int) := by omega
      rw [if_neg h2]
      by_cases h3 : 6 < k
      · have g3 : (6 : Int) < (k : Int) := by omega
        have HC := hid fun w => constant_i (12 - (k : Int)) (12 - k) (by omega) (by omega) w
        have hw : IntKind.i64.wrap (12 - (k : Int)) = 12 - (k : Int) := IntWalk.i64_in _ (by omega)
        rw [if_pos h3]
        go_enter Try.func95, Try.ntmps95
        go_wp2_with (go_at_call 102; (with_reducible refine (HC.out _).mono ?_); rintro E1 w1 ⟨rfl, rfl⟩)
        go_ret
        exact ⟨rfl, rfl⟩
      · have g3 : ¬ (6 : Int) < (k : Int) := by omega
        have HC := hid fun w => constant_any k (by omega) w
        rw [if_neg h3]
        go_enter Try.func95, Try.ntmps95
        go_wp2_with (go_at_call 102; (with_reducible refine (HC.out _).mono ?_); rintro E1 w1 ⟨rfl, rfl⟩)
        go_ret
        exact ⟨rfl, rfl⟩
theorem turn_facts (k : Int) : ∃ r : Nat, r = turnN k ∧ r < 24 ∧ (k.tmod 24 + 24).tmod 24 = (r : Int) ∧ -24 < k.tmod 24 ∧ k.tmod 24 < 24 := by
  have h1 : -24 < k.tmod 24 := Int.lt_tmod_of_pos k (by decide)
  have h2 : k.tmod 24 < 24 := Int.tmod_lt_of_pos k (by decide)
  have h3 : (k.tmod 24 + 24).tmod 24 = (k.tmod 24 + 24) % 24 := Int.tmod_eq_emod_of_nonneg (by omega)
  refine ⟨turnN k, rfl, ?_, ?_, h1, h2⟩
  · unfold turnN
    rw [h3]
    omega
  · unfold turnN
    rw [h3]
    omega
def RetCE0 (w : World) (x y : Nat) (E : Ending) (w' : World) : Prop := E = .returned (.complex .f64 x y) ∧ w = w'
set_option maxRecDepth 100000 in
theorem Root_any (k : Int) (w : World) : Calls Try.prog 84 #[.int .i64 k] w (RetCE0 w (cosB (turnN k)) (cosB ((turnN k + 18) % 24))) := by
  obtain ⟨r, hr, hr24, h1, h2, h3⟩ := turn_facts k
  rw [← hr]
  have hw1 : IntKind.i64.wrap (k.tmod 24) = k.tmod 24 := IntWalk.i64_in _ (by omega)
  have hw2 : IntKind.i64.wrap (k.tmod 24 + 24) = k.tmod 24 + 24 := IntWalk.i64_in _ (by omega)
  have hw3 : IntKind.i64.wrap (r : Int) = (r : Int) := IntWalk.i64_in _ (by omega)
  obtain ⟨q, hq⟩ : ∃ q, q = (r + 18) % 24 := ⟨_, rfl⟩
  have hq24 : q < 24 := by omega
  have h4 : ((r : Int) + 18).tmod 24 = (q : Int) := by
    rw [Int.tmod_eq_emod_of_nonneg (by omega), hq]
    omega
  have hw4 : IntKind.i64.wrap ((r : Int) + 18) = (r : Int) + 18 := IntWalk.i64_in _ (by omega)
  have hw5 : IntKind.i64.wrap (q : Int) = (q : Int) := IntWalk.i64_in _ (by omega)
  rw [← hq]
  have HC := hid fun w => cosine_any r hr24 w
  have HQ := hid fun w => cosine_any q hq24 w
  clear hr hq
  go_enter Try.func84, Try.ntmps84
  go_wp2_with (go_at_call 95; first | ((with_reducible refine (HC.out _).mono ?_); rintro E1 w1 ⟨rfl, rfl⟩) | ((with_reducible refine (HQ.out _).mono ?_); rintro E2 w2 ⟨rfl, rfl⟩))
  go_ret
  exact ⟨rfl, rfl⟩
/-- The phasor, plainly. -/
def phasF (v : Option Nat) (k : Int) : CV := cscale v (cv (cosB (turnN k)) (cosB ((turnN k + 18) % 24)))
set_option maxRecDepth 100000 in
theorem TPhasor_any (x : Nat) (k : Int) (w : World) : Calls Try.prog 76 #[.float .f64 x, .int .i64 k] w (RetC w (phasF (val x) k)) := by
  have HR := hid fun w => Root_any k w
  have HS := hid fun w => Scale_any x (cosB (turnN k)) (cosB ((turnN k + 18) % 24)) w
  unfold phasF
  generalize cosB (turnN k) = c1 at *
  generalize cosB ((turnN k + 18) % 24) = c2 at *
  go_enter Try.func76, Try.ntmps76
  go_wp2_with (first | (go_at_call 84; (with_reducible refine (HR.out _).mono ?_); rintro E1 w1 ⟨rfl, rfl⟩) | (go_at_call 83; (with_reducible refine (HS.out _).mono ?_); rintro E2 w2 ⟨x2, y2, rfl, ⟨n2, rfl⟩, h2, h3, h4⟩))
  go_ret
  exact ⟨_, _, rfl, ⟨_, rfl⟩, h2, h3, h4⟩
/-- What source.Phasor tells of a fit element. -/
def srcK (k : Nat) : Bool := k == 4 || k == 5
def phF (e : El) : CV := if srcK e.kind = true then phasF (val e.v) e.ph else (val 0, val 0)
def RetPh (w : World) (e : El) (E : Ending) (w' : World) : Prop := ∃ x y, E = .returned (.tuple #[.complex .f64 x y, .int .i64 (if srcK e.kind = true then 0 else 2)]) ∧ cv x y = phF e ∧ Below w.heap.size w w'
set_option maxRecDepth 100000 in
set_option maxHeartbeats 1000000 in
theorem SPhasor_any (e : El) (hk : e.kind < 256) (hc : checkE e = 0) (w : World) : Calls Try.prog 59 #[elV e] w (RetPh w e) := by
  show Calls Try.prog 59 #[.agg #[.int .u8 e.kind, .string e.name, .string e.a, .string e.b, .string e.c, .string e.d, .float .f64 e.v, .int .i64 e.ph]] w _
  have HC : Hid (∀ w, Calls Try.prog 20 #[.agg #[.int .u8 e.kind, .string e.name, .string e.a, .string e.b, .string e.c, .string e.d, .float .f64 e.v, .int .i64 e.ph]] w (RetV w (.int .i64 0))) := hid fun w => by
    have := Check_any e hk w
    rw [hc] at this
    exact this
  have HT := hid fun w => TPhasor_any e.v e.ph w
  obtain ⟨w1, hw1, b1, c⟩ := el_open w e
  obtain ⟨c0, c1, c2, c3, c4, c5, c6, c7⟩ := c
  go_enter Try.func59, Try.ntmps59
  go_upto_region 1 with (fail)
  rw [← hw1]
  clear hw1
  obtain ⟨q, hq⟩ : ∃ q, q = srcK e.kind := ⟨_, rfl⟩
  by_cases h4 : e.kind = 4
  · have hq1 : srcK e.kind = true := by rw [h4]; rfl
    have hF : Hid (phF e = phasF (val e.v) e.ph) := hid (by unfold phF; rw [if_pos hq1])
    have hI : Hid ((if srcK e.kind = true then (0 : Int) else 2) = 0) := hid (by rw [if_pos hq1])
    have k4 : ((e.kind : Int) != 4) = false := by rw [h4]; rfl
    clear hq hq1 h4
    go_wp2_with (first | (go_at_call 20; (with_reducible refine (HC.out _).mono ?_); rintro E2 w2 ⟨rfl, hb2⟩; have d0 := (hb2.cell (p := ⟨w.heap.size, 0, none⟩) (World.block_lt_of_cell? _ _ c0)).trans c0; have d6 := (hb2.cell (p := ⟨w.heap.size, 6, none⟩) (World.block_lt_of_cell? _ _ c6)).trans c6; have d7 := (hb2.cell (p := ⟨w.heap.size, 7, none⟩) (World.block_lt_of_cell? _ _ c7)).trans c7) | (go_at_call 76; (with_reducible refine (HT.out _).mono ?_); rintro E3 w3 ⟨x, y, rfl, ⟨n3, rfl⟩, hz, -, -⟩; replace hz := hid hz))
    go_ret2
    exact ⟨_, _, by rw [hI.out]; rfl, hz.out.trans hF.out.symm, below_drewN' (bl2 b1 hb2) _⟩
  · by_cases h5 : e.kind = 5
    · have hq1 : srcK e.kind = true := by rw [h5]; rfl
      have hF : Hid (phF e = phasF (val e.v) e.ph) := hid (by unfold phF; rw [if_pos hq1])
      have hI : Hid ((if srcK e.kind = true then (0 : Int) else 2) = 0) := hid (by rw [if_pos hq1])
      have k4 : ((e.kind : Int) != 4) = true := by rw [h5]; rfl
      have k5 : ((e.kind : Int) != 5) = false := by rw [h5]; rfl
      clear hq hq1 h4 h5
      go_wp2_with (first | (go_at_call 20; (with_reducible refine (HC.out _).mono ?_); rintro E2 w2 ⟨rfl, hb2⟩; have d0 := (hb2.cell (p := ⟨w.heap.size, 0, none⟩) (World.block_lt_of_cell? _ _ c0)).trans c0; have d6 := (hb2.cell (p := ⟨w.heap.size, 6, none⟩) (World.block_lt_of_cell? _ _ c6)).trans c6; have d7 := (hb2.cell (p := ⟨w.heap.size, 7, none⟩) (World.block_lt_of_cell? _ _ c7)).trans c7) | (go_at_call 76; (with_reducible refine (HT.out _).mono ?_); rintro E3 w3 ⟨x, y, rfl, ⟨n3, rfl⟩, hz, -, -⟩; replace hz := hid hz))
      go_ret2
      exact ⟨_, _, by rw [hI.out]; rfl, hz.out.trans hF.out.symm, below_drewN' (bl2 b1 hb2) _⟩
    · have hq1 : ¬ srcK e.kind = true := by
        unfold srcK
        simp [h4, h5]
      have hF : Hid (phF e = (val 0, val 0)) := hid (by unfold phF; rw [if_neg hq1])
      have hI : Hid ((if srcK e.kind = true then (0 : Int) else 2) = 2) := hid (by rw [if_neg hq1])
      have k4 : ((e.kind : Int) != 4) = true := by simp; omega
      have k5 : ((e.kind : Int) != 5) = true := by simp; omega
      clear hq hq1 h4 h5
      go_wp2_with (first | (go_at_call 20; (with_reducible refine (HC.out _).mono ?_); rintro E2 w2 ⟨rfl, hb2⟩; have d0 := (hb2.cell (p := ⟨w.heap.size, 0, none⟩) (World.block_lt_of_cell? _ _ c0)).trans c0))
      go_ret2
      exact ⟨_, _, by rw [hI.out]; rfl, hF.out.symm, bl2 b1 hb2⟩
end Go.Proofs.Ytgcakhmdmajplaa

namespace Go.Proofs.Ytgcakhmdmajplaa
open Go.RowKit

set_option maxRecDepth 100000 in
set_option maxHeartbeats 1000000 in
theorem snone_any {w : World} {B : Nat} {N : NB} {V : NV} {L : List El} {nodes br ks ps bs : List ByteArray} (K : NetR w B N V L nodes br ks ps bs) (hL : L.length ≤ 256) (hk : ∀ e ∈ L, e.kind < 256) {s : NetS} (hnet : netF L = ((0, 0), some s)) :
    Calls Try.prog 58 #[.pointer (some ⟨N.n, 0, none⟩)] w (RetV w (.bool false)) := by
  have HW := hid (nWith_any K hL hk hnet)
  go_enter Try.func58, Try.ntmps58
  go_wp2_with (go_at_call 72; (with_reducible refine HW.out.mono ?_); rintro E1 w1 ⟨⟨f1, f2, rfl, hf⟩, hb⟩; go_loud (have hf1 : (f1 == 1) = false := by (rcases hf with rfl | rfl <;> rfl)); clear hf)
  go_ret
  exact ⟨rfl, bla _ hb⟩
/-- What put leaves: the flag; the list. -/
def RetSPut (w : World) (B g n : Nat) (x : Nat → CV) (b : Bool) (E : Ending) (w' : World) : Prop := ∃ xs : List Z, E = .returned (.bool b) ∧ w'.ownsRow B 44 1 (.slice (some ⟨g, 0, none⟩) n n) n (xs.map C) ∧ XsV xs n x ∧ w.grownBy w' (some g)
set_option maxRecDepth 100000 in
set_option maxHeartbeats 4000000 in
theorem sput_any {w : World} {B0 B : Nat} {N : NB} {V : NV} {L : List El} {nodes br ks bs : List ByteArray} (K : NetR w B0 N V L nodes br ks nodes bs) (s : ByteArray) (hs : s.size ≤ maxLen) (fid : FuncId) (hcf : ∀ args w, Sem.run Try.prog (callFunc fid args) w = .ok (.enter fid args) w) (op : CV → CV → CV) (HF : ∀ a b c d w, Calls Try.prog fid #[.complex .f64 a b, .complex .f64 c d] w (RetC w (op (cv a b) (cv c d))))
    (g n : Nat) (hnn : nodes.length ≤ n) (xs : List Z) (x : Nat → CV) (hx : XsV xs n x) (own : w.ownsRow B 44 1 (.slice (some ⟨g, 0, none⟩) n n) n (xs.map C)) (s1 s2 : Nat) (sv : CV) (hsv : cv s1 s2 = sv) :
    Calls Try.prog 62 #[.pointer (some ⟨N.n, 0, none⟩), .slice (some ⟨g, 0, none⟩) n n, .agg #[.string s, .func (.func fid) #[] #[]], .complex .f64 s1 s2] w (RetSPut w B g n (if hasS nodes s = true then setX x (plc nodes s) (op (x (plc nodes s)) sv) else x) (!hasS nodes s || cfin (op (x (plc nodes s)) sv))) := by
  have b1 : Below w.heap.size w (w.alloc (.cells #[.string s, .func (.func fid) #[] #[]] 112)) := bl_a _ _
  have HP := hid (nPlace_any (K.below b1) s hs)
  replace HF := hid HF
  cases hh : hasS nodes s with
  | false =>
    go_enter Try.func62, Try.ntmps62
    rw [hh] at HP
    go_wp2_with (go_at_call 77; (with_reducible refine HP.out.mono ?_); rintro E1 w1 ⟨⟨c, rfl, hc⟩, rfl⟩)
    go_ret
    exact ⟨xs, rfl, own.alloc _, by simpa using hx, gr_of _ b1⟩
  | true =>
    have hpg := plc_get hh
    have hpl := plc_lt hh
    obtain ⟨p, hp⟩ : ∃ p, p = plc nodes s := ⟨_, rfl⟩
    rw [← hp] at hpg hpl ⊢
    have hpn : p < n := by omega
    have HP2 : Hid (Calls Try.prog 77 #[.pointer (some ⟨N.n, 0, none⟩), .string s] (w.alloc (.cells #[.string s, .func (.func fid) #[] #[]] 112)) fun E w' => E = .returned (.tuple #[.int .i64 p, .bool true]) ∧ (w.alloc (.cells #[.string s, .func (.func fid) #[] #[]] 112)) = w') := hid (HP.out.mono fun E w' ⟨⟨c, h1, h2⟩, h3⟩ => ⟨by rw [h1, h2 p hpg, hh], h3.symm⟩)
    obtain ⟨z, hz, hzv⟩ := hx.2 p hpn
    have own1 := own.alloc (.cells #[.string s, .func (.func fid) #[] #[]] 112)
    have k1 : (w.alloc (.cells #[.string s, .func (.func fid) #[] #[]] 112)).cell? ⟨w.heap.size, 1, none⟩ = some (.func (.func fid) #[] #[]) := by simp
    clear HP hp hpg hpl hh
    obtain ⟨O, hO⟩ : ∃ O, O = op (x p) sv := ⟨_, rfl⟩
    rw [← hO]
    replace hO := hid hO
    go_enter Try.func62, Try.ntmps62
    go_upto_region 4 with (go_at_call 77; (with_reducible refine HP2.out.mono ?_); rintro E1 w1 ⟨rfl, rfl⟩)
    obtain ⟨w1, hw1⟩ : ∃ w1, w1 = w.alloc (.cells #[.string s, .func (.func fid) #[] #[]] 112) := ⟨_, rfl⟩
    rw [← hw1] at own1 k1 b1 ⊢
    clear hw1 HP2 own
    have c1 : w1.cell? ⟨g, p, none⟩ = some (.complex .f64 z.1 z.2) := (own1.cellAt p (by omega)).trans (by rw [List.getElem?_map, hz]; rfl)
    have f1 := own1.frozenAt p
    have g1 : (p : Int) < (n : Int) := by omega
    refine wp_region_takes 9 1 (by kernel_rfl) (by kernel_rfl) (fun _ _ _ _ _ h => h) ?_
    simp only [List.take_succ_cons, List.take_zero, List.drop_succ_cons, List.drop_zero]
    repeat
      first
        | (refine wpTk_reck rfl rfl (fun K hK => ?_); unfold Oper.gives; go_simp; refine hK _ ?_; clear hK K)
        | (refine wpTk_loadD rfl rfl (fun K hK => ?_); unfold Oper.gives; go_simp; refine hK _ ?_; clear hK K)
    refine wpTk_nil ?_
    refine wpDs_call rfl (fun K hK => ?_)
    go_simp
    with_reducible refine (HF.out _ _ _ _ _).mono ?_
    rintro E3 w3 ⟨r1, r2, rfl, ⟨m, rfl⟩, hr, -, -⟩
    refine hK _ m (wpDs_zero ?_)
    clear hK K
    have own2 : (w1.drew.drewN m).ownsRow B 44 1 (.slice (some ⟨g, 0, none⟩) n n) n (xs.map C) := own1
    obtain ⟨own3, -⟩ := own2.stored p (.complex .f64 r1 r2)
    rw [show (xs.map C).set p (.complex .f64 r1 r2) = (xs.set p (r1, r2)).map C by rw [List.map_set]; rfl] at own3
    have b3 : w.grownBy ((w1.drew.drewN m).setCell ⟨g, p, none⟩ (.complex .f64 r1 r2)) (some g) := gr_trans (gr_drewN (gr_drewN (gr_of (some g) b1) 1) m) (grownBy_set _ g p _)
    have x3 := hx.set p (r1, r2)
    have hr2 : cv (r1, r2).1 (r1, r2).2 = O := by
      show cv r1 r2 = _
      rw [hr, hzv, hsv, hO.out]
    rw [hr2] at x3
    have HFi := hid fun w => Finite_q r1 r2 O hr2 w
    clear hr hr2 hzv hsv hO own1 own2 b1 hx
    replace own3 := hid own3
    replace b3 := hid b3
    go_wp2_with (go_at_call 61; (with_reducible refine (HFi.out _).mono ?_); rintro E6 w6 ⟨rfl, ⟨n6, rfl⟩⟩)
    go_ret
    have e : w1.drew.drewN m = w1.drewN (1 + m) := World.drewN_drewN w1 1 m
    have own4 := own3.out
    have b4 := b3.out
    rw [e] at own4 b4
    exact ⟨_, rfl, owns_drewN own4 n6, x3, gr_drewN b4 n6⟩
end Go.Proofs.Ytgcakhmdmajplaa
