/- source.Right. Condition: the net was made. -/
import Derived.Test.YtgcakhmdmajplaaTsAM
import Derived.Test.YtgcakhmdmajplaaTpF
import Derived.Deep.CutRange
namespace Go.Proofs.Ytgcakhmdmajplaa
open Go.RowKit

/-- What an element's source leaves of the right side; whether all is finite. -/
def rigE (nodes br : List ByteArray) (x : Nat → CV) (e : El) : (Nat → CV) × Bool :=
  if srcK e.kind = true then
    if e.kind = 5 then (setX x (nodes.length + plc br e.name) (phF e), cfin (phF e))
    else
      let x1 := if hasS nodes e.a = true then setX x (plc nodes e.a) (csub (x (plc nodes e.a)) (phF e)) else x
      let x2 := if hasS nodes e.b = true then setX x1 (plc nodes e.b) (cadd (x1 (plc nodes e.b)) (phF e)) else x1
      (x2, (!hasS nodes e.b || cfin (cadd (x1 (plc nodes e.b)) (phF e))) && (!hasS nodes e.a || cfin (csub (x (plc nodes e.a)) (phF e))))
  else (x, true)
def rigG (nodes br : List ByteArray) : Nat → (Nat → CV) → List El → (Int × Int) × (Nat → CV)
  | _, x, [] => ((0, 0), x)
  | k, x, e :: r => if (rigE nodes br x e).2 = true then rigG nodes br (k + 1) (rigE nodes br x e).1 r else ((6, (k : Int)), fun _ => (none, none))
def rigF (nodes br : List ByteArray) (L : List El) : (Int × Int) × (Nat → CV) := rigG nodes br 0 (fun _ => (val 0, val 0)) L
def RetRig (w : World) (n : Nat) (r : (Int × Int) × (Nat → CV)) (E : Ending) (w' : World) : Prop := ∃ v, E = .returned (.tuple #[v, .agg #[.int .i64 r.1.1, .int .i64 r.1.2]]) ∧ Below w.heap.size w w' ∧ ((r.1.1 ≠ 0 ∧ v = .slice none 0 0) ∨ (r.1.1 = 0 ∧ ∃ xs : List Z, w'.ownsRow w.heap.size 44 1 v n (xs.map C) ∧ xs.map zv = (List.range n).map r.2))
def RigLoop (w8 : World) (B g n : Nat) (nodes br : List ByteArray) (L : List El) (G : (Int × Int) × (Nat → CV)) (i : Value) (w : World) : Prop := ∃ (k : Nat) (x : Nat → CV) (xs : List Z), i = .int .i64 k ∧ k ≤ L.length ∧ w8.grownBy w (some g) ∧ w.ownsRow B 44 1 (.slice (some ⟨g, 0, none⟩) n n) n (xs.map C) ∧ XsV xs n x ∧ G = rigG nodes br k x (L.drop k)
set_option maxRecDepth 100000 in
theorem cf_Sub (args : Array Value) (w : World) : Sem.run Try.prog (callFunc 63 args) w = .ok (.enter 63 args) w := by rfl
set_option maxRecDepth 100000 in
theorem cf_Add (args : Array Value) (w : World) : Sem.run Try.prog (callFunc 64 args) w = .ok (.enter 64 args) w := by rfl
set_option maxRecDepth 100000 in
set_option maxHeartbeats 4000000 in
theorem Right_any {w : World} {B : Nat} {N : NB} {V : NV} {L : List El} {nodes br ks : List ByteArray} (K : NetR w B N V L nodes br ks nodes br) (hs : nodes.length + br.length ≤ 64) (hL : L.length ≤ 256) (hck : ∀ e ∈ L, checkE e = 0) (hbr : ∀ e ∈ L, brK e.kind = true → hasS br e.name = true) (hkw : ∀ e ∈ L, e.kind < 256 ∧ IsW e.v) {s : NetS} (hnet : netF L = ((0, 0), some s)) :
    Calls Try.prog 41 #[.pointer (some ⟨N.n, 0, none⟩)] w (RetRig w (nodes.length + br.length) (rigF nodes br L)) := by
  obtain ⟨n, hn⟩ : ∃ n, n = nodes.length + br.length := ⟨_, rfl⟩
  obtain ⟨G, hG⟩ : ∃ G, G = rigF nodes br L := ⟨_, rfl⟩
  rw [← hn, ← hG]
  have hni : (nodes.length : Int) + (br.length : Int) = (n : Int) := by rw [hn]; push_cast; rfl
  have hn64 : n ≤ 64 := by omega
  replace hG := hid hG
  replace hn := hid hn
  have b1 : Below w.heap.size w (w.alloc (.cells #[.int .i64 0, .int .i64 0] 29)) := bl_a _ _
  have F1 : FltAt (w.alloc (.cells #[.int .i64 0, .int .i64 0] 29)) w.heap.size 0 0 := flt_n _ 0 0 rfl
  have s1 : w.heap.size < (w.alloc (.cells #[.int .i64 0, .int .i64 0] 29)).heap.size := by simp
  go_enter Try.func41, Try.ntmps41
  go_upto_region 1 with (fail)
  obtain ⟨w1, hw1⟩ : ∃ w1, w1 = w.alloc (.cells #[.int .i64 0, .int .i64 0] 29) := ⟨_, rfl⟩
  rw [← hw1] at b1 F1 s1 ⊢
  clear hw1
  have HN := hid (snone_any (K.below b1) hL (fun e he => (hkw e he).1) hnet)
  have hmk := made_z n hn64
  go_upto_region 3 with (go_at_call 58; (with_reducible refine HN.out.mono ?_); rintro E2 w2 ⟨rfl, hb2⟩)
  have b2 := bl2 b1 hb2
  have F2 := flt_b F1 hb2
  have s2 := Nat.lt_of_lt_of_le s1 hb2.size
  have HO : Hid (Calls Try.prog 22 #[.pointer (some ⟨N.n, 0, none⟩)] w2 fun E w' => E = .returned (.int .i64 n) ∧ Dr w2 w') := hid ((Order_any (K.below b2) (by omega) (by omega)).mono fun E w' ⟨h1, h2⟩ => ⟨by rw [h1, hni], h2⟩)
  clear HN b1 F1 hb2 s1
  go_upto_region 4 with (go_at_call 22; (with_reducible refine HO.out.mono ?_); rintro E3 w3 ⟨rfl, ⟨n3, rfl⟩⟩)
  have own4 : ((w2.drewN n3).alloc (.cells (Array.replicate n (Value.complex .f64 0 0)) 44)).ownsRow w2.heap.size 44 1 (.slice (some ⟨w2.heap.size, 0, none⟩) n n) n ((List.replicate n ((0, 0) : Z)).map C) := own_col n hn64 (w2.drewN n3)
  have b4 : Below w.heap.size w ((w2.drewN n3).alloc (.cells (Array.replicate n (Value.complex .f64 0 0)) 44)) := bla _ (below_drewN' b2 n3)
  have F4 : FltAt ((w2.drewN n3).alloc (.cells (Array.replicate n (Value.complex .f64 0 0)) 44)) w.heap.size 0 0 := flt_b (show FltAt (w2.drewN n3) w.heap.size 0 0 from F2) (bl_a _ _)
  have s4 : w2.heap.size < ((w2.drewN n3).alloc (.cells (Array.replicate n (Value.complex .f64 0 0)) 44)).heap.size := by simp
  obtain ⟨w4, hw4⟩ : ∃ w4, w4 = (w2.drewN n3).alloc (.cells (Array.replicate n (Value.complex .f64 0 0)) 44) := ⟨_, rfl⟩
  rw [← hw4] at own4 b4 F4 s4 ⊢
  obtain ⟨g, hg⟩ : ∃ g, g = w2.heap.size := ⟨_, rfl⟩
  rw [← hg] at own4 s4 s2 ⊢
  have HE := hid (nElements_any (K.below b4) (by omega))
  clear hw4 hg hmk HO F2 b2
  go_wp2_with (go_at_call 16; (with_reducible refine HE.out.mono ?_); rintro E8 w8 ⟨v8, rfl, o8, hb8⟩; obtain ⟨a8, c8, rfl, -⟩ := owns_cap o8)
  have b8 := bl2 b4 hb8
  have F8 := flt_b F4 hb8
  have own8 := owns_below own4 hb8
  have E8 := ElsAt.of_owns o8
  clear HE b4 F4 own4
  go_loopw [21] (fun i w' => RigLoop w8 g g n nodes br L G i w') (fun i _ => L.length + 1 - (intOf i).toNat)
  case atStart => exact ⟨0, _, _, rfl, Nat.zero_le _, gr_refl _ _, own8, XsV.zero n, by rw [List.drop_zero]; exact hG.out⟩
  case round =>
    obtain ⟨k, x, xs, rfl, hk, hg, own, hx, hGk⟩ := hrel
    clear own8 hG
    have Fr : FltAt wr w.heap.size 0 0 := (hg.block _ F8.lt (by intro e; cases e; omega)).trans F8
    have br0 : Below w.heap.size w wr := b8.trans (gr_below hg (by omega) b8.size)
    by_cases hkn : k < L.length
    · obtain ⟨e, he⟩ : ∃ e, L[k]? = some e := ⟨L[k]'hkn, List.getElem?_eq_getElem hkn⟩
      have hmem := List.mem_of_getElem? he
      obtain ⟨⟨hk1, hk8⟩, hES⟩ := checkE_ok (hck e hmem)
      have hbe := hbr e hmem
      obtain ⟨hk256, hvw⟩ := hkw e hmem
      have hdr : L.drop k = e :: L.drop (k + 1) := by rw [List.drop_eq_getElem_cons hkn, (List.getElem?_eq_some_iff.1 he).2]
      rw [hdr] at hGk
      obtain ⟨R, hR⟩ : ∃ R, R = rigE nodes br x e := ⟨_, rfl⟩
      have hGs : G = if R.2 = true then rigG nodes br (k + 1) R.1 (L.drop (k + 1)) else ((6, (k : Int)), fun _ => (none, none)) := by rw [hGk, hR]; rfl
      replace hGs := hid hGs
      replace hR := hid hR
      clear hGk hdr
      obtain ⟨be, off, ea, -⟩ := E8.at he
      subst ea
      have hbeb : be ≠ g := by
        have := (o8.lt be rfl).1
        omega
      obtain ⟨x0, x1, x2, x3, x4, x5, x6, x7⟩ := E8.cellsAt he
      have x0 := gr_cell hg hbeb x0
      have x1 := gr_cell hg hbeb x1
      have x2 := gr_cell hg hbeb x2
      have x3 := gr_cell hg hbeb x3
      have x4 := gr_cell hg hbeb x4
      have x5 := gr_cell hg hbeb x5
      have x6 := gr_cell hg hbeb x6
      have x7 := gr_cell hg hbeb x7
      have g6 : (k : Int) < (L.length : Int) := by omega
      have hk1 : IntKind.i64.wrap ((k : Int) + 1) = (k : Int) + 1 := IntWalk.i64_in _ (by omega)
      obtain ⟨w9, hw9, bw9, e0, e1, e2, e3, e4, e5, e6, e7⟩ := el_open wr e
      go_upto_region 7 with (fail)
      rw [← hw9]
      clear hw9 x0 x1 x2 x3 x4 x5 x6 x7 he
      have HPh : Hid (Calls Try.prog 59 #[.agg #[.int .u8 e.kind, .string e.name, .string e.a, .string e.b, .string e.c, .string e.d, .float .f64 e.v, .int .i64 e.ph]] w9 (RetPh w9 e)) := hid (SPhasor_any e hk256 (hck e hmem) w9)
      have HFl : Hid (∀ w', w8.grownBy w' (some g) → FltAt w' w.heap.size 0 0) := hid fun w' h => (h.block _ F8.lt (by intro e; cases e; omega)).trans F8
      have HBl : Hid (∀ w', w8.grownBy w' (some g) → Below w.heap.size w w') := hid fun w' h => b8.trans (gr_below h (by omega) b8.size)
      have hg9 := gr_trans hg (gr_of (some g) bw9)
      have own9 := owns_below own bw9
      clear own bw9 Fr br0
      by_cases hsk : srcK e.kind = true
      · have HP2 : Hid (Calls Try.prog 59 #[.agg #[.int .u8 e.kind, .string e.name, .string e.a, .string e.b, .string e.c, .string e.d, .float .f64 e.v, .int .i64 e.ph]] w9 fun E w' => ∃ x y, E = .returned (.tuple #[.complex .f64 x y, .int .i64 0]) ∧ cv x y = phF e ∧ Below w9.heap.size w9 w') := hid (HPh.out.mono fun E w' ⟨x, y, h1, h2, h3⟩ => ⟨x, y, by rw [h1, if_pos hsk], h2, h3⟩)
        clear HPh
        by_cases h5 : e.kind = 5
        · have k5 : ((e.kind : Int) == 5) = true := by rw [h5]; rfl
          have hhn := hbe (by rw [h5]; rfl)
          have hRe : Hid (R = (setX x (nodes.length + plc br e.name) (phF e), cfin (phF e))) := hid (by
            rw [hR.out]
            unfold rigE
            rw [if_pos hsk, if_pos h5])
          clear hsk h5 hR hbe
          obtain ⟨p, hp⟩ : ∃ p, p = plc br e.name := ⟨_, rfl⟩
          have hpl := plc_lt hhn
          have hpg := plc_get hhn
          rw [← hp] at hpl hpg hRe
          have HBr : Hid (∀ w', Below w.heap.size w w' → Calls Try.prog 60 #[.pointer (some ⟨N.n, 0, none⟩), .string e.name] w' fun E w'' => E = .returned (.tuple #[.int .i64 p, .bool true]) ∧ w' = w'') := hid fun w' hb => (nBranch_any (K.below hb) e.name (sz16 hES.1)).mono fun E w'' ⟨⟨c, h1, h2⟩, h3⟩ => ⟨by rw [h1, h2 p hpg, hhn], h3.symm⟩
          have HNd := hid fun w' (hb : Below w.heap.size w w') => nNodes_any (K.below hb) (by omega)
          obtain ⟨q, hq⟩ : ∃ q, q = nodes.length + p := ⟨_, rfl⟩
          have hqi : (nodes.length : Int) + (p : Int) = (q : Int) := by rw [hq]; push_cast; rfl
          have hqn : q < n := by have := hn.out; omega
          rw [← hq] at hRe
          have hwq : IntKind.i64.wrap (q : Int) = (q : Int) := IntWalk.i64_in _ (by omega)
          have gq : (q : Int) < (n : Int) := by omega
          clear hp hq hpl hpg hhn
          obtain ⟨y, hy, -⟩ := hx.2 q hqn
          obtain ⟨P, hP⟩ : ∃ P, P = phF e := ⟨_, rfl⟩
          rw [← hP] at HP2 hRe
          clear hP
          go_upto_region 13 with (first
            | (go_at_call 59; (with_reducible refine HP2.out.mono ?_); rintro E2 w10 ⟨p1, p2, rfl, hz, hb10⟩; replace hz := hid hz; have d0 := (hb10.cell (p := ⟨wr.heap.size, 0, none⟩) (World.block_lt_of_cell? _ _ e0)).trans e0; have d1 := (hb10.cell (p := ⟨wr.heap.size, 1, none⟩) (World.block_lt_of_cell? _ _ e1)).trans e1; have hg10 := gr_trans hg9 (gr_of (some g) hb10))
            | (go_at_call 60; (with_reducible refine (HBr.out _ (HBl.out _ hg10)).mono ?_); rintro E3 w11 ⟨rfl, rfl⟩)
            | (go_at_call 10; (with_reducible refine (HNd.out _ (HBl.out _ hg10)).mono ?_); rintro E4 w12 ⟨v12, rfl, o12, hb12⟩; obtain ⟨a12, c12, rfl, -⟩ := owns_cap o12; have own12 := owns_below (owns_below own9 hb10) hb12; have cg := (own12.cellAt q (by omega)).trans (show _ = some (C y) by rw [List.getElem?_map, hy]; rfl); have fg := own12.frozenAt q; have hg12 := gr_trans hg10 (gr_of (some g) hb12)))
          obtain ⟨own13, -⟩ := own12.stored q (.complex .f64 p1 p2)
          rw [show (xs.map C).set q (.complex .f64 p1 p2) = (xs.set q (p1, p2)).map C by rw [List.map_set]; rfl] at own13
          have hg13 := gr_trans hg12 (grownBy_set w12 g q (.complex .f64 p1 p2))
          have x13 := hx.set q (p1, p2)
          rw [show cv (p1, p2).1 (p1, p2).2 = P from hz.out] at x13
          obtain ⟨w13, hw13⟩ : ∃ w13, w13 = w12.setCell ⟨g, q, none⟩ (.complex .f64 p1 p2) := ⟨_, rfl⟩
          rw [← hw13] at own13 hg13 ⊢
          have HFi : Hid (∀ w, Calls Try.prog 61 #[.complex .f64 p1 p2] w (RetB w (cfin P))) := hid fun w => Finite_q p1 p2 P hz.out w
          have F13 := HFl.out w13 hg13
          have b13 := HBl.out w13 hg13
          clear hw13 cg fg own12 hg12 hx hg own9 hg9 hg10 HBr HNd hz
          obtain ⟨O, hO⟩ : ∃ O, O = cfin P := ⟨_, rfl⟩
          rw [← hO] at HFi hRe
          clear hO
          cases O with
          | true =>
            have hG2 := hid (show G = rigG nodes br (k + 1) (setX x q P) (L.drop (k + 1)) by rw [hGs.out, hRe.out]; rfl)
            clear hGs hRe
            go_wp2_with (go_at_call 61; (with_reducible refine (HFi.out _).mono ?_); rintro E6 w6 ⟨rfl, ⟨n6, rfl⟩⟩)
            go_roundw
            case rel => exact ⟨k + 1, _, _, by go_num, hkn, gr_drewN hg13 _, owns_drewN own13 _, x13, hG2.out⟩
            case measure => simp [intOf]; omega
          | false =>
            have hG2 := hid (show G = ((6, (k : Int)), fun _ => (none, none)) by rw [hGs.out, hRe.out]; rfl)
            have f0 := F13.c0
            have f1 := F13.c1
            have f2 := F13.fr 0
            have f3 := F13.fr 1
            clear hGs hRe
            go_wp2_with (go_at_call 61; (with_reducible refine (HFi.out _).mono ?_); rintro E6 w6 ⟨rfl, ⟨n6, rfl⟩⟩)
            refine bodyPost_ret (results_flt rfl _ _ w.heap.size 6 k rfl (FltAt.set2 (show FltAt (w13.drewN n6) w.heap.size 0 0 from F13) _ _)) rfl ?_
            rw [hG2.out]
            exact ⟨_, rfl, below_set2 (below_drewN' b13 _) _ _ (Nat.le_refl _), .inl ⟨(show (6 : Int) ≠ 0 by decide), rfl⟩⟩
        · have k5 : ((e.kind : Int) == 5) = false := by simp; omega
          obtain ⟨P, hP⟩ : ∃ P, P = phF e := ⟨_, rfl⟩
          obtain ⟨oa, hoa⟩ : ∃ o : Bool, o = (!hasS nodes e.a || cfin (csub (x (plc nodes e.a)) P)) := ⟨_, rfl⟩
          obtain ⟨x1, hx1⟩ : ∃ x1, x1 = if hasS nodes e.a = true then setX x (plc nodes e.a) (csub (x (plc nodes e.a)) P) else x := ⟨_, rfl⟩
          obtain ⟨ob, hob⟩ : ∃ o : Bool, o = (!hasS nodes e.b || cfin (cadd (x1 (plc nodes e.b)) P)) := ⟨_, rfl⟩
          obtain ⟨x2, hx2⟩ : ∃ x2, x2 = if hasS nodes e.b = true then setX x1 (plc nodes e.b) (cadd (x1 (plc nodes e.b)) P) else x1 := ⟨_, rfl⟩
          have hRe : Hid (R = (x2, ob && oa)) := hid (by
            rw [hR.out]
            unfold rigE
            rw [if_pos hsk, if_neg h5, ← hP]
            dsimp only
            rw [← hx1, ← hx2, ← hoa, ← hob])
          clear hsk h5 hR hbe
          rw [← hP] at HP2
          have hnn : nodes.length ≤ n := by have := hn.out; omega
          have HPa := hid fun w' (hb : Below w.heap.size w w') (own : w'.ownsRow g 44 1 (.slice (some ⟨g, 0, none⟩) n n) n (xs.map C)) s1 s2 (hsv : cv s1 s2 = P) => sput_any (K.below hb) e.a (sz16 hES.2.1) 63 cf_Sub csub (fun a b c d w => Sub_any a b c d w) g n hnn xs x hx own s1 s2 P hsv
          have HPb := hid fun w' (hb : Below w.heap.size w w') ys (hy : XsV ys n x1) (own : w'.ownsRow g 44 1 (.slice (some ⟨g, 0, none⟩) n n) n (ys.map C)) s1 s2 (hsv : cv s1 s2 = P) => sput_any (K.below hb) e.b (sz16 hES.2.2.1) 64 cf_Add cadd (fun a b c d w => Add_any a b c d w) g n hnn ys x1 hy own s1 s2 P hsv
          rw [← hx1, ← hoa] at HPa
          rw [← hx2, ← hob] at HPb
          clear hP hoa hob hx1 hx2
          have hne : (⟨wr.heap.size, 3, none⟩ : Addr).block ≠ g := by
            have := hg.size
            have := hb8.size
            show wr.heap.size ≠ g
            omega
          clear hg
          cases oa with
          | true =>
            cases ob with
            | true =>
              have hG2 := hid (show G = rigG nodes br (k + 1) x2 (L.drop (k + 1)) by rw [hGs.out, hRe.out]; rfl)
              clear hGs hRe
              go_wp2_with (first | (go_at_call 59; (with_reducible refine HP2.out.mono ?_); rintro E2 w10 ⟨p1, p2, rfl, hz, hb10⟩; replace hz := hid hz; have d0 := (hb10.cell (p := ⟨wr.heap.size, 0, none⟩) (World.block_lt_of_cell? _ _ e0)).trans e0; have d2 := (hb10.cell (p := ⟨wr.heap.size, 2, none⟩) (World.block_lt_of_cell? _ _ e2)).trans e2; have d3 := (hb10.cell (p := ⟨wr.heap.size, 3, none⟩) (World.block_lt_of_cell? _ _ e3)).trans e3; have hg10 := gr_trans hg9 (gr_of (some g) hb10); have own10 := owns_below own9 hb10) | (go_at_call 62; first | ((with_reducible refine (HPa.out _ (HBl.out _ hg10) own10 _ _ hz.out).mono ?_); rintro E3 w11 ⟨ys, rfl, own11, y11, hga⟩; have d3 := gr_cell hga (p := ⟨wr.heap.size, 3, none⟩) hne d3; have hg11 := gr_trans hg10 hga) | ((with_reducible refine (HPb.out _ (HBl.out _ hg11) ys y11 own11 _ _ hz.out).mono ?_); rintro E4 w12 ⟨zs, rfl, own12, y12, hgb⟩; have hg12 := gr_trans hg11 hgb; have F12 := HFl.out _ hg12; have f0 := F12.c0; have f1 := F12.c1; have f2 := F12.fr 0; have f3 := F12.fr 1)))
              go_roundw
              case rel => exact ⟨k + 1, _, _, by go_num, hkn, hg12, own12, y12, hG2.out⟩
              case measure => simp [intOf]; omega
            | false =>
              have hG2 := hid (show G = ((6, (k : Int)), fun _ => (none, none)) by rw [hGs.out, hRe.out]; rfl)
              clear hGs hRe
              go_wp2_with (first | (go_at_call 59; (with_reducible refine HP2.out.mono ?_); rintro E2 w10 ⟨p1, p2, rfl, hz, hb10⟩; replace hz := hid hz; have d0 := (hb10.cell (p := ⟨wr.heap.size, 0, none⟩) (World.block_lt_of_cell? _ _ e0)).trans e0; have d2 := (hb10.cell (p := ⟨wr.heap.size, 2, none⟩) (World.block_lt_of_cell? _ _ e2)).trans e2; have d3 := (hb10.cell (p := ⟨wr.heap.size, 3, none⟩) (World.block_lt_of_cell? _ _ e3)).trans e3; have hg10 := gr_trans hg9 (gr_of (some g) hb10); have own10 := owns_below own9 hb10) | (go_at_call 62; first | ((with_reducible refine (HPa.out _ (HBl.out _ hg10) own10 _ _ hz.out).mono ?_); rintro E3 w11 ⟨ys, rfl, own11, y11, hga⟩; have d3 := gr_cell hga (p := ⟨wr.heap.size, 3, none⟩) hne d3; have hg11 := gr_trans hg10 hga) | ((with_reducible refine (HPb.out _ (HBl.out _ hg11) ys y11 own11 _ _ hz.out).mono ?_); rintro E4 w12 ⟨zs, rfl, own12, y12, hgb⟩; have hg12 := gr_trans hg11 hgb; have F12 := HFl.out _ hg12; have f0 := F12.c0; have f1 := F12.c1; have f2 := F12.fr 0; have f3 := F12.fr 1)))
              refine bodyPost_ret (results_flt rfl _ _ w.heap.size 6 k rfl (FltAt.set2 F12 _ _)) rfl ?_
              rw [hG2.out]
              exact ⟨_, rfl, below_set2 (HBl.out _ hg12) _ _ (Nat.le_refl _), .inl ⟨(show (6 : Int) ≠ 0 by decide), rfl⟩⟩
          | false =>
            have hG2 := hid (show G = ((6, (k : Int)), fun _ => (none, none)) by rw [hGs.out, hRe.out]; cases ob <;> rfl)
            clear hGs hRe
            cases ob
            all_goals
              go_wp2_with (first | (go_at_call 59; (with_reducible refine HP2.out.mono ?_); rintro E2 w10 ⟨p1, p2, rfl, hz, hb10⟩; replace hz := hid hz; have d0 := (hb10.cell (p := ⟨wr.heap.size, 0, none⟩) (World.block_lt_of_cell? _ _ e0)).trans e0; have d2 := (hb10.cell (p := ⟨wr.heap.size, 2, none⟩) (World.block_lt_of_cell? _ _ e2)).trans e2; have d3 := (hb10.cell (p := ⟨wr.heap.size, 3, none⟩) (World.block_lt_of_cell? _ _ e3)).trans e3; have hg10 := gr_trans hg9 (gr_of (some g) hb10); have own10 := owns_below own9 hb10) | (go_at_call 62; first | ((with_reducible refine (HPa.out _ (HBl.out _ hg10) own10 _ _ hz.out).mono ?_); rintro E3 w11 ⟨ys, rfl, own11, y11, hga⟩; have d3 := gr_cell hga (p := ⟨wr.heap.size, 3, none⟩) hne d3; have hg11 := gr_trans hg10 hga) | ((with_reducible refine (HPb.out _ (HBl.out _ hg11) ys y11 own11 _ _ hz.out).mono ?_); rintro E4 w12 ⟨zs, rfl, own12, y12, hgb⟩; have hg12 := gr_trans hg11 hgb; have F12 := HFl.out _ hg12; have f0 := F12.c0; have f1 := F12.c1; have f2 := F12.fr 0; have f3 := F12.fr 1)))
              refine bodyPost_ret (results_flt rfl _ _ w.heap.size 6 k rfl (FltAt.set2 F12 _ _)) rfl ?_
              rw [hG2.out]
              exact ⟨_, rfl, below_set2 (HBl.out _ hg12) _ _ (Nat.le_refl _), .inl ⟨(show (6 : Int) ≠ 0 by decide), rfl⟩⟩
      · have HP2 : Hid (Calls Try.prog 59 #[.agg #[.int .u8 e.kind, .string e.name, .string e.a, .string e.b, .string e.c, .string e.d, .float .f64 e.v, .int .i64 e.ph]] w9 fun E w' => ∃ x y, E = .returned (.tuple #[.complex .f64 x y, .int .i64 2]) ∧ Below w9.heap.size w9 w') := hid (HPh.out.mono fun E w' ⟨x, y, h1, h2, h3⟩ => ⟨x, y, by rw [h1, if_neg hsk], h3⟩)
        have hRe : R = (x, true) := by
          rw [hR.out]
          unfold rigE
          rw [if_neg hsk]
        have hG2 := hid (show G = rigG nodes br (k + 1) x (L.drop (k + 1)) by rw [hGs.out, hRe]; rfl)
        clear HPh hsk hR hRe hGs
        go_wp2_with (go_at_call 59; (with_reducible refine HP2.out.mono ?_); rintro E2 w10 ⟨p1, p2, rfl, hb10⟩)
        go_roundw
        case rel => exact ⟨k + 1, _, _, by go_num, hkn, gr_trans hg9 (gr_of (some g) hb10), owns_below own9 hb10, hx, hG2.out⟩
        case measure => simp [intOf]; omega
    · obtain rfl : k = L.length := by omega
      have g6 : ¬ (L.length : Int) < (L.length : Int) := by omega
      rw [List.drop_length] at hGk
      have hG2 := hid (show G = ((0, 0), x) from hGk)
      have f0 := Fr.c0
      have f1 := Fr.c1
      have f2 := Fr.fr 0
      have f3 := Fr.fr 1
      clear hGk
      go_wp2
      refine bodyPost_ret (results_flt rfl _ _ w.heap.size 0 0 rfl (FltAt.set2 Fr _ _)) rfl ?_
      rw [hG2.out]
      have own2 := own_setB (own_setB own (a := ⟨w.heap.size, 0, none⟩) s2 (.int .i64 0)) (a := ⟨w.heap.size, 1, none⟩) s2 (.int .i64 0)
      exact ⟨_, rfl, below_set2 br0 _ _ (Nat.le_refl _), .inr ⟨rfl, xs, own_mono own2 (Nat.le_of_lt s2), hx.map⟩⟩
end Go.Proofs.Ytgcakhmdmajplaa

