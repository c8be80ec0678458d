/- What stamp stamps of an element: row, pair, transfer, branch, amplifier, none. Conditions: names are short, the net is made. -/
import Derived.Test.YtgcakhmdmajplaaTpA
import Derived.Test.YtgcakhmdmajplaaKitE1M
import Derived.Deep.QuietTactic
import Derived.BigQuiet
namespace Go.Proofs.Ytgcakhmdmajplaa
open Go.RowKit Go.Maps

/-- A node's row. -/
def rowP (nodes : List ByteArray) (s : ByteArray) : Int := if hasS nodes s = true then (plc nodes s : Int) else -1
theorem plc_lt {nodes : List ByteArray} {s : ByteArray} (h : hasS nodes s = true) : plc nodes s < nodes.length := (List.getElem?_eq_some_iff.1 (plc_get h)).1
theorem rowP_lt (nodes : List ByteArray) (s : ByteArray) : rowP nodes s < nodes.length := by
  unfold rowP
  split
  · rename_i h
    have := plc_lt h
    omega
  · omega
/-- The board, a net of whose it is, in a world that began as w0. -/
structure StK (w0 : World) (B : Nat) (N : NB) (V : NV) (L : List El) (nodes br ks : List ByteArray) (w : World) (b : Nat) (S : Bd) : Prop where
  K : NetR w0 B N V L nodes br ks nodes br
  bl : Below w0.heap.size w0 w
  hb : w0.heap.size ≤ b
  P : BdP w b N.n nodes.length (nodes.length + br.length) S
  hs : nodes.length + br.length ≤ 64
section
variable {w0 w w' : World} {B b : Nat} {N : NB} {V : NV} {L : List El} {nodes br ks : List ByteArray} {S S' : Bd}
theorem StK.below (h : StK w0 B N V L nodes br ks w b S) (hb : Below w.heap.size w w') : StK w0 B N V L nodes br ks w' b S := ⟨h.K, h.bl.trans (hb.mono h.bl.size), h.hb, h.P.below hb, h.hs⟩
theorem StK.net (h : StK w0 B N V L nodes br ks w b S) : NetR w B N V L nodes br ks nodes br := h.K.below h.bl
theorem StK.lt (h : StK w0 B N V L nodes br ks w b S) : b < w.heap.size := h.P.lt
theorem StK.turn (h : StK w0 B N V L nodes br ks w b S) (hp : BdP w' b N.n nodes.length (nodes.length + br.length) S') (hb : w.grownBy w' (some b)) : StK w0 B N V L nodes br ks w' b S' := ⟨h.K, h.bl.trans (gr_below hb h.hb h.bl.size), h.hb, hp, h.hs⟩
theorem StK.drewN (h : StK w0 B N V L nodes br ks w b S) (n : Nat) : StK w0 B N V L nodes br ks (w.drewN n) b S := h.below (below_drewN' (Below.refl _ _) n)
/-- A function that turns the board. -/
def RetSt (w0 : World) (B : Nat) (N : NB) (V : NV) (L : List El) (nodes br ks : List ByteArray) (w : World) (b : Nat) (S : Bd) (E : Ending) (w' : World) : Prop := E = .returned (.tuple #[]) ∧ StK w0 B N V L nodes br ks w' b S ∧ w.grownBy w' (some b)
theorem sAdd_any (H : StK w0 B N V L nodes br ks w b S) (i j : Int) (hi : i < (nodes.length : Int) + br.length) (hj : j < (nodes.length : Int) + br.length) (x y : Nat) :
    Calls Try.prog 69 #[.pointer (some ⟨b, 0, none⟩), .int .i64 i, .int .i64 j, .complex .f64 x y] w (RetSt w0 B N V L nodes br ks w b (bdAdd (nodes.length + br.length) S i j (cv x y))) := by
  refine (bdAdd_any H.P H.hs i j (by push_cast; exact hi) (by push_cast; exact hj) x y).mono ?_
  rintro E w' ⟨rfl, h1, h2⟩
  exact ⟨rfl, H.turn h1 h2, h2⟩
theorem sSub_any (H : StK w0 B N V L nodes br ks w b S) (i j : Int) (hi : i < (nodes.length : Int) + br.length) (hj : j < (nodes.length : Int) + br.length) (x y : Nat) :
    Calls Try.prog 70 #[.pointer (some ⟨b, 0, none⟩), .int .i64 i, .int .i64 j, .complex .f64 x y] w (RetSt w0 B N V L nodes br ks w b (bdSub (nodes.length + br.length) S i j (cv x y))) := by
  refine (bdSub_any H.P H.hs i j (by push_cast; exact hi) (by push_cast; exact hj) x y).mono ?_
  rintro E w' ⟨rfl, h1, h2⟩
  exact ⟨rfl, H.turn h1 h2, h2⟩
set_option maxRecDepth 100000 in
set_option maxHeartbeats 2000000 in
theorem row_any (H : StK w0 B N V L nodes br ks w b S) (s : ByteArray) (hs : s.size ≤ maxLen) :
    Calls Try.prog 68 #[.pointer (some ⟨b, 0, none⟩), .string s] w fun E w' => E = .returned (.int .i64 (rowP nodes s)) ∧ w' = w := by
  have HP := hid (nPlace_any H.net s hs)
  obtain ⟨zs, hB, -⟩ := H.P
  have c0 := hB.c0
  clear hB
  unfold rowP
  have hpl := hid (fun h : hasS nodes s = true => plc_get h)
  obtain ⟨hh, hhe⟩ : ∃ x, x = hasS nodes s := ⟨_, rfl⟩
  rw [← hhe] at HP hpl ⊢
  clear hhe
  go_enter Try.func68, Try.ntmps68
  cases hh
  all_goals
    go_wp2_with (go_at_call 77; (with_reducible refine HP.out.mono ?_); rintro E1 w1 ⟨⟨c, rfl, hc⟩, rfl⟩)
    go_ret
  · exact ⟨rfl, rfl⟩
  · rw [hc _ (hpl.out trivial)]
    exact ⟨rfl, rfl⟩
set_option maxRecDepth 100000 in
set_option maxHeartbeats 1000000 in
theorem nBranch_any {ps bs : List ByteArray} (K : NetR w B N V L nodes br ks ps bs) (s : ByteArray) (hs : s.size ≤ maxLen) : Calls Try.prog 60 #[.pointer (some ⟨N.n, 0, none⟩), .string s] w fun E w' => (∃ c : Int, E = .returned (.tuple #[.int .i64 c, .bool (hasS bs s)]) ∧ ∀ i : Nat, bs[i]? = some s → c = i) ∧ w' = w := by
  have HN := hid (is_any K)
  have KP := K.KB
  obtain ⟨-, -, -, -, -, -, c6⟩ := K.cells
  go_enter Try.func60, Try.ntmps60
  go_wp2_with (first | (go_at_call 30; (with_reducible refine HN.out.mono ?_); rintro E1 w1 ⟨rfl, rfl⟩) | (at_lookup; go_loud (refine wpList_look rfl _ _ rfl N.bm rfl bs KP s rfl hs ?_; intro cc hcc)))
  go_ret2
  exact ⟨⟨cc, rfl, hcc⟩, rfl⟩
/-- An element's texts are short. -/
def ElS (e : El) : Prop := e.name.size ≤ 16 ∧ e.a.size ≤ 16 ∧ e.b.size ≤ 16 ∧ e.c.size ≤ 16 ∧ e.d.size ≤ 16
theorem sz16 {s : ByteArray} (h : s.size ≤ 16) : s.size ≤ maxLen := Nat.le_trans h (by decide)
def pairP (sz : Nat) (S : Bd) (i j : Int) (y : CV) : Bd := bdSub sz (bdSub sz (bdAdd sz (bdAdd sz S i i y) j j y) i j y) j i y
def transP (sz : Nat) (S : Bd) (i j k l : Int) (g : CV) : Bd := bdAdd sz (bdSub sz (bdSub sz (bdAdd sz S i k g) i l g) j k g) j l g
def oneC : CV := cv 4607182418800017408 0
def branP (sz : Nat) (S : Bd) (i j r : Int) : Bd := bdSub sz (bdSub sz (bdAdd sz (bdAdd sz S i r oneC) r i oneC) j r oneC) r j oneC
def ampP (sz : Nat) (S : Bd) (i j k l r : Int) (g : CV) : Bd := bdAdd sz (bdSub sz (branP sz S i j r) r k g) r l g
/-- The box of an element. -/
theorem el_open (w : World) (e : El) : ∃ w1, w1 = w.alloc (.cells #[.int .u8 e.kind, .string e.name, .string e.a, .string e.b, .string e.c, .string e.d, .float .f64 e.v, .int .i64 e.ph] 54) ∧ Below w.heap.size w w1 ∧ w1.cell? ⟨w.heap.size, 0, none⟩ = some (.int .u8 e.kind) ∧ w1.cell? ⟨w.heap.size, 1, none⟩ = some (.string e.name) ∧ w1.cell? ⟨w.heap.size, 2, none⟩ = some (.string e.a) ∧ w1.cell? ⟨w.heap.size, 3, none⟩ = some (.string e.b) ∧ w1.cell? ⟨w.heap.size, 4, none⟩ = some (.string e.c) ∧ w1.cell? ⟨w.heap.size, 5, none⟩ = some (.string e.d) ∧ w1.cell? ⟨w.heap.size, 6, none⟩ = some (.float .f64 e.v) ∧ w1.cell? ⟨w.heap.size, 7, none⟩ = some (.int .i64 e.ph) := by
  refine ⟨_, rfl, bl_a _ _, ?_⟩
  exact (ElAt.new w e).cells
set_option maxRecDepth 100000 in
set_option maxHeartbeats 4000000 in
theorem none_any (e : El) (x y : Nat) (H : StK w0 B N V L nodes br ks w b S) : Calls Try.prog 45 #[.pointer (some ⟨b, 0, none⟩), elV e, .complex .f64 x y] w (RetSt w0 B N V L nodes br ks w b S) := by
  show Calls Try.prog 45 #[.pointer (some ⟨b, 0, none⟩), .agg #[.int .u8 e.kind, .string e.name, .string e.a, .string e.b, .string e.c, .string e.d, .float .f64 e.v, .int .i64 e.ph], .complex .f64 x y] w _
  go_enter Try.func45, Try.ntmps45
  go_wp2
  go_end0
  exact ⟨rfl, H.below (bl_a _ _), gr_of _ (bl_a _ _)⟩
set_option maxRecDepth 100000 in
set_option maxHeartbeats 4000000 in
theorem pair_any (e : El) (he : ElS e) (x y : Nat) (H : StK w0 B N V L nodes br ks w b S) : Calls Try.prog 46 #[.pointer (some ⟨b, 0, none⟩), elV e, .complex .f64 x y] w (RetSt w0 B N V L nodes br ks w b (pairP (nodes.length + br.length) S (rowP nodes e.a) (rowP nodes e.b) (cv x y))) := by
  show Calls Try.prog 46 #[.pointer (some ⟨b, 0, none⟩), .agg #[.int .u8 e.kind, .string e.name, .string e.a, .string e.b, .string e.c, .string e.d, .float .f64 e.v, .int .i64 e.ph], .complex .f64 x y] w _
  obtain ⟨w1, hw1, bw, -, -, e2, e3, -, -, -, -⟩ := el_open w e
  have H1 := H.below bw
  have b1 : w.grownBy w1 (some b) := gr_of _ bw
  clear bw
  go_enter Try.func46, Try.ntmps46
  go_upto_region 1 with (fail)
  rw [← hw1]
  clear hw1
  have H2 : StK w0 B N V L nodes br ks w1.drew b S := H1.below (bld (Below.refl _ _))
  have b2 : w.grownBy w1.drew (some b) := gr_drewN b1 1
  have HA := hid (row_any H2 e.a (sz16 he.2.1))
  have HB := hid (row_any H2 e.b (sz16 he.2.2.1))
  have ri := rowP_lt nodes e.a
  have rj := rowP_lt nodes e.b
  generalize rowP nodes e.a = ra at *
  generalize rowP nodes e.b = rb at *
  go_region_with (first
    | (go_at_call 68; (with_reducible refine HA.out.mono ?_); rintro E3 w3 ⟨rfl, rfl⟩)
    | (go_at_call 68; (with_reducible refine HB.out.mono ?_); rintro E3 w3 ⟨rfl, rfl⟩))
  all_goals
    clear HA HB e2 e3
    have hra : ra < (nodes.length : Int) + br.length := by omega
    have hrb : rb < (nodes.length : Int) + br.length := by omega
    have K1 := hid (sAdd_any H2 ra ra hra hra x y)
    go_upto_region 3 with (go_at_call 69; (with_reducible refine K1.out.mono ?_); rintro E3 w3 ⟨rfl, H3, b3⟩)
    have K2 := hid (sAdd_any H3 rb rb hrb hrb x y)
    go_upto_region 4 with (go_at_call 69; (with_reducible refine K2.out.mono ?_); rintro E3 w4 ⟨rfl, H4, b4⟩)
    have K3 := hid (sSub_any H4 ra rb hra hrb x y)
    go_upto_region 5 with (go_at_call 70; (with_reducible refine K3.out.mono ?_); rintro E3 w5 ⟨rfl, H5, b5⟩)
    have K4 := hid (sSub_any H5 rb ra hrb hra x y)
    go_wp2_with (go_at_call 70; (with_reducible refine K4.out.mono ?_); rintro E3 w6 ⟨rfl, H6, b6⟩)
    go_end0
    exact ⟨rfl, H6, gr_trans (gr_trans (gr_trans (gr_trans b2 b3) b4) b5) b6⟩
set_option maxRecDepth 100000 in
set_option maxHeartbeats 4000000 in
theorem transfer_any (e : El) (he : ElS e) (x y : Nat) (H : StK w0 B N V L nodes br ks w b S) : Calls Try.prog 48 #[.pointer (some ⟨b, 0, none⟩), elV e, .complex .f64 x y] w (RetSt w0 B N V L nodes br ks w b (transP (nodes.length + br.length) S (rowP nodes e.a) (rowP nodes e.b) (rowP nodes e.c) (rowP nodes e.d) (cv e.v 0))) := by
  show Calls Try.prog 48 #[.pointer (some ⟨b, 0, none⟩), .agg #[.int .u8 e.kind, .string e.name, .string e.a, .string e.b, .string e.c, .string e.d, .float .f64 e.v, .int .i64 e.ph], .complex .f64 x y] w _
  obtain ⟨w1, hw1, bw, -, -, e2, e3, e4, e5, e6, -⟩ := el_open w e
  have H1 := H.below bw
  have b1 : w.grownBy w1 (some b) := gr_of _ bw
  clear bw
  go_enter Try.func48, Try.ntmps48
  go_upto_region 1 with (fail)
  rw [← hw1]
  clear hw1
  have HA := hid fun n => row_any (H1.drewN n) e.a (sz16 he.2.1)
  have HB := hid fun n => row_any (H1.drewN n) e.b (sz16 he.2.2.1)
  have HC := hid fun n => row_any (H1.drewN n) e.c (sz16 he.2.2.2.1)
  have HD := hid fun n => row_any (H1.drewN n) e.d (sz16 he.2.2.2.2)
  have ri := rowP_lt nodes e.a
  have rj := rowP_lt nodes e.b
  have rk := rowP_lt nodes e.c
  have rl := rowP_lt nodes e.d
  generalize rowP nodes e.a = ra at *
  generalize rowP nodes e.b = rb at *
  generalize rowP nodes e.c = rc at *
  generalize rowP nodes e.d = rd at *
  go_upto_region 2 with (fail)
  go_quiet (first
    | (go_at_call 68; with_reducible exact Calls.quiet_of_same (HA.out _))
    | (go_at_call 68; with_reducible exact Calls.quiet_of_same (HB.out _))
    | (go_at_call 68; with_reducible exact Calls.quiet_of_same (HC.out _))
    | (go_at_call 68; with_reducible exact Calls.quiet_of_same (HD.out _)))
  all_goals
    clear HA HB HC HD e2 e3 e4 e5 e6
    have H2 := H1.drewN nq
    have b2 := gr_drewN b1 nq
    have hn64 := H.hs
    have hra : ra < (nodes.length : Int) + br.length := by omega
    have hrb : rb < (nodes.length : Int) + br.length := by omega
    have hrc : rc < (nodes.length : Int) + br.length := by omega
    have hrd : rd < (nodes.length : Int) + br.length := by omega
    have K3 := hid (sAdd_any H2 ra rc hra hrc e.v 0)
    go_upto_region 4 with (go_at_call 69; (with_reducible refine K3.out.mono ?_); rintro E3 w3 ⟨rfl, H3, b3⟩)
    have K4 := hid (sSub_any H3 ra rd hra hrd e.v 0)
    go_upto_region 5 with (go_at_call 70; (with_reducible refine K4.out.mono ?_); rintro E4 w4 ⟨rfl, H4, b4⟩)
    have K5 := hid (sSub_any H4 rb rc hrb hrc e.v 0)
    go_upto_region 6 with (go_at_call 70; (with_reducible refine K5.out.mono ?_); rintro E5 w5 ⟨rfl, H5, b5⟩)
    have K6 := hid (sAdd_any H5 rb rd hrb hrd e.v 0)
    go_wp2_with (go_at_call 69; (with_reducible refine K6.out.mono ?_); rintro E6 w6 ⟨rfl, H6, b6⟩)
    go_end0
    exact ⟨rfl, H6, gr_trans (gr_trans (gr_trans (gr_trans b2 b3) b4) b5) b6⟩
set_option maxRecDepth 100000 in
set_option maxHeartbeats 4000000 in
theorem branch_any (e : El) (he : ElS e) (hm : hasS br e.name = true) (x y : Nat) (H : StK w0 B N V L nodes br ks w b S) : Calls Try.prog 47 #[.pointer (some ⟨b, 0, none⟩), elV e, .complex .f64 x y] w (RetSt w0 B N V L nodes br ks w b (branP (nodes.length + br.length) S (rowP nodes e.a) (rowP nodes e.b) ((nodes.length : Int) + plc br e.name))) := by
  show Calls Try.prog 47 #[.pointer (some ⟨b, 0, none⟩), .agg #[.int .u8 e.kind, .string e.name, .string e.a, .string e.b, .string e.c, .string e.d, .float .f64 e.v, .int .i64 e.ph], .complex .f64 x y] w _
  obtain ⟨w1, hw1, bw, -, e1, e2, e3, -, -, -, -⟩ := el_open w e
  have H1 := H.below bw
  have b1 : w.grownBy w1 (some b) := gr_of _ bw
  clear bw
  go_enter Try.func47, Try.ntmps47
  go_upto_region 1 with (fail)
  rw [← hw1]
  clear hw1
  have HA := hid fun n => row_any (H1.drewN n) e.a (sz16 he.2.1)
  have HB := hid fun n => row_any (H1.drewN n) e.b (sz16 he.2.2.1)
  have ri := rowP_lt nodes e.a
  have rj := rowP_lt nodes e.b
  have rm := plc_lt hm
  have hpg := hid (plc_get hm)
  have hn64 := H.hs
  generalize rowP nodes e.a = ra at *
  generalize rowP nodes e.b = rb at *
  generalize plc br e.name = pm at *
  go_quiet (first
    | (go_at_call 68; with_reducible exact Calls.quiet_of_same (HA.out _))
    | (go_at_call 68; with_reducible exact Calls.quiet_of_same (HB.out _)))
  all_goals
    obtain ⟨w2, hw2⟩ : ∃ w2, w2 = w1.drewN nq := ⟨_, rfl⟩
    have H2 := H1.drewN nq
    have bx := gr_drewN b1 nq
    have d1 : (w1.drewN nq).cell? ⟨w.heap.size, 1, none⟩ = some (.string e.name) := e1
    rw [← hw2] at H2 bx d1 ⊢
    clear hw2 H1 b1 e1 e2 e3 HA HB
    have HN : Hid (∀ n, Calls Try.prog 60 #[.pointer (some ⟨N.n, 0, none⟩), .string e.name] (w2.drewN n) fun E w' => E = .returned (.tuple #[.int .i64 pm, .bool true]) ∧ w' = w2.drewN n) := fun n => by
      refine (nBranch_any (H2.drewN n).net e.name (sz16 he.1)).mono ?_
      rintro E w' ⟨⟨c, rfl, hc⟩, rfl⟩
      rw [hm, hc _ hpg.out]
      exact ⟨rfl, rfl⟩
    obtain ⟨zs, hB, -⟩ := H2.P
    have z0 := hB.c0
    have z1 := hB.c1
    clear hB zs
    go_upto_region 2 with (fail)
    go_quiet (first | (go_at_call 60; with_reducible exact Calls.quiet_of_same (HN.out _)))
    all_goals
      clear HN d1
      have H3 := H2.drewN nq
      have b3 := gr_drewN bx nq
      have hra : ra < (nodes.length : Int) + br.length := by omega
      have hrb : rb < (nodes.length : Int) + br.length := by omega
      have hrm : (nodes.length : Int) + (pm : Int) < (nodes.length : Int) + br.length := by omega
      have hwr : IntKind.i64.wrap ((nodes.length : Int) + (pm : Int)) = (nodes.length : Int) + (pm : Int) := IntWalk.i64_in _ (by omega)
      go_upto_region 4 with (fail)
      have K4 := hid (sAdd_any H3 ra _ hra hrm 4607182418800017408 0)
      go_upto_region 5 with (go_at_call 69; (with_reducible refine K4.out.mono ?_); rintro E4 w4 ⟨rfl, H4, b4⟩)
      have K5 := hid (sAdd_any H4 _ ra hrm hra 4607182418800017408 0)
      go_upto_region 6 with (go_at_call 69; (with_reducible refine K5.out.mono ?_); rintro E5 w5 ⟨rfl, H5, b5⟩)
      have K6 := hid (sSub_any H5 rb _ hrb hrm 4607182418800017408 0)
      go_upto_region 7 with (go_at_call 70; (with_reducible refine K6.out.mono ?_); rintro E6 w6 ⟨rfl, H6, b6⟩)
      have K7 := hid (sSub_any H6 _ rb hrm hrb 4607182418800017408 0)
      go_wp2_with (go_at_call 70; (with_reducible refine K7.out.mono ?_); rintro E7 w7 ⟨rfl, H7, b7⟩)
      go_end0
      exact ⟨rfl, H7, gr_trans (gr_trans (gr_trans (gr_trans b3 b4) b5) b6) b7⟩
end
end Go.Proofs.Ytgcakhmdmajplaa

