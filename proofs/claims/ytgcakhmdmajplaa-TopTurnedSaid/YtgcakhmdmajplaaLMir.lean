/- TopMirrored is true. Conditions: kinds are bytes, Values have 64 bits. -/
import Derived.Test.YtgcakhmdmajplaaTuDM
import Derived.Test.YtgcakhmdmajplaaFrameM
namespace Go.Proofs.Ytgcakhmdmajplaa
open Go.RowKit Go.ChangeShapes Go.WideShapes Go.ChangeAt

/-- A slice that came in: no longer than its space. -/
theorem slice_cap {H : Type} {enc : TypeId × Value → H} {P : Program} {W : World} {base : Nat} {sp : Nat → Bool} {held : Bool} {t e : TypeId} {fuel : Nat} {a : Option Addr} {len cap : Nat} {x : DataW H × List MemPlace}
    (ht : P.underlying t = some (.slice e)) (h : DataW.trod enc P W base sp held fuel t (Value.slice a len cap).cells.toList = some x) : len ≤ cap := by
  rcases Go.Deep.open_slice ht h with ⟨hcs, hx⟩ | ⟨ad, len', cap', m, n, D, Pl, hcs, _, hl, hmx, hm, hx, hc⟩
  · simp [Value.cells] at hcs
    omega
  · simp [Value.cells] at hcs
    omega
theorem feq_fself {x : Option Nat} (h : fin x = true) : feq x x = true := by
  obtain ⟨a, s, m, e, rfl, hr⟩ := fin_iff.1 h
  unfold feq ford
  simp only [Option.bind_some, Ieee.Format.order, hr, Ieee.Datum.order]
  simp [compare, compareOfLessAndEq]
def MirO (w0 : World) (n : Nat) (i : Value) (w : World) : Prop := ∃ k nd : Nat, i = .int .i64 k ∧ k ≤ n ∧ w = w0.drewN nd
def MirI (w0 : World) (k : Nat) (j : Value) (w : World) : Prop := ∃ q nd : Nat, j = .int .i64 q ∧ q ≤ k ∧ w = w0.drewN nd
theorem matF_bad {nodes br : List ByteArray} {L : List El} {x : Option Nat} (h : (matF nodes br L x).1.1 ≠ 0) : (matF nodes br L x).2 = [] := by
  unfold matF at h ⊢
  split
  · rename_i h1
    rw [if_pos h1] at h
    split
    · rename_i h2
      rw [if_pos h2] at h
      exact absurd rfl h
    · rfl
  · rfl
set_option maxRecDepth 100000 in
set_option maxHeartbeats 8000000 in
theorem mirrored_walk (L : List El) (o : Nat) (hL : ∀ e ∈ L, e.kind < 256 ∧ IsW e.v) (a : Option Addr) (cap : Nat) (hcap : L.length ≤ cap) (W : World) (hK : KsAt W (.slice a L.length cap) L) :
    Calls Try.prog 3 #[.slice a L.length cap, .int .u64 o] W fun e w' => e = .returned (.bool true) ∧ Below W.heap.size W w' := by
  have HFew := hid (few_any L a cap W hcap hK)
  obtain ⟨E, hE⟩ : ∃ E, E = L.take 60 := ⟨_, rfl⟩
  rw [← hE] at HFew
  have hE60 : E.length ≤ 60 := by rw [hE, List.length_take]; omega
  have hEL : ∀ e ∈ E, e.kind < 256 ∧ IsW e.v := fun e he => hL e (by rw [hE] at he; exact List.mem_of_mem_take he)
  clear hE
  obtain ⟨⟨⟨f1, f2⟩, on⟩, hr⟩ : ∃ r, r = netF E := ⟨_, rfl⟩
  have HAl := hid fun w => alive_any w
  clear hK
  go_enter Try.func3, Try.ntmps3
  go_upto_region 2 with (go_at_call 5; (with_reducible refine HFew.out.mono ?_); rintro E1 w1 ⟨v1, rfl, own1, hb1⟩)
  have n1 := (ElsN.of_owns own1).1
  obtain ⟨ea, ec, rfl⟩ := n1.form
  clear own1 HFew
  cases on with
  | none =>
    have hf : f1 ≠ 0 := netF_none hr.symm
    have hf0 : (f1 == 0) = false := by simpa using hf
    have HN : Hid (∀ v w, ElsAt w v E → Calls Try.prog 6 #[v] w fun E w' => E = .returned (.tuple #[.pointer none, .agg #[.int .i64 f1, .int .i64 f2]]) ∧ Below w.heap.size w w') := hid fun v w h => by
      have := Of_any E (fun e he => (hEL e he).1) v w h (by omega)
      rw [← hr] at this
      exact this
    clear hr hf
    go_wp2_with (first
      | (go_at_call 6; (with_reducible refine (HN.out _ _ n1).mono ?_); rintro E4 w4 ⟨rfl, hb4⟩; have b4 := bla (.cells #[.int .i64 f1, .int .i64 f2] 29) (bl2 hb1 hb4); have F4 := FltAt.new w4 f1 f2)
      | (go_at_call 7; (with_reducible refine (HAl.out _).mono ?_); rintro E5 w5 ⟨rfl, hb5⟩; have b5 := bl2 b4 hb5; have F5 := flt_b F4 hb5; have c0 := F5.c0; have c1 := F5.c1))
    go_ret
    exact ⟨by simp [hf0, bne], b5⟩
  | some s =>
    obtain ⟨he0, hsl⟩ := netF_some hr.symm
    obtain ⟨rfl, rfl⟩ := Prod.mk.inj he0
    have hm := hid (netF_mn hr.symm hEL)
    have HN : Hid (∀ v w, ElsAt w v E → Calls Try.prog 6 #[v] w fun E w' => ∃ N V, E = .returned (.tuple #[.pointer (some ⟨NB.n N, 0, none⟩), .agg #[.int .i64 0, .int .i64 0]]) ∧ NetR w' (w.heap.size + 1) N V s.l s.nodes s.br (nmL s.l) s.nodes s.br ∧ Below w.heap.size w w') := hid fun v w h => by
      have := Of_any E (fun e he => (hEL e he).1) v w h (by omega)
      rw [← hr] at this
      exact this
    clear hr he0
    go_upto_region 3 with (go_at_call 6; (with_reducible refine (HN.out _ _ n1).mono ?_); rintro E4 w4 ⟨N, V, rfl, K4, hb4⟩)
    have hbF := bl_a w4 (.cells #[.int .i64 0, .int .i64 0] 29)
    have F4 := FltAt.new w4 0 0
    obtain ⟨w5, hw5⟩ : ∃ w5, w5 = w4.alloc (.cells #[.int .i64 0, .int .i64 0] 29) := ⟨_, rfl⟩
    rw [← hw5] at hbF F4 ⊢
    clear hw5
    have K5 := K4.below hbF
    have n5 := (n1.below hb4).below hbF
    have b5 := bl2 (bl2 hb1 hb4) hbF
    clear K4 n1 hb1 hb4 hbF HN
    go_upto_region 5 with (go_at_call 7; (with_reducible refine (HAl.out _).mono ?_); rintro E6 w6 ⟨rfl, hb6⟩)
    have K6 := K5.below hb6
    have n6 := n5.below hb6
    have b6 := bl2 b5 hb6
    have F6 := flt_b F4 hb6
    have c0 := F6.c0
    have c1 := F6.c1
    clear K5 n5 b5 hb6 F4 HAl
    have HM := Matrix_any K6 hm.out.hh hm.out.hs hm.out.hL hm.out.hck hm.out.hbr hm.out.hkw o
    have hn64 : s.nodes.length + s.br.length ≤ 64 := hm.out.hs
    have hbrs : ∀ e ∈ s.l, brK e.kind = true → hasS s.br e.name = true := hm.out.hbr
    have HNo := hid fun w' (hb : Below w6.heap.size w6 w') => nNodes_any (K6.below hb) (by omega)
    have HBr := hid fun w' (hb : Below w6.heap.size w6 w') => nBranches_any (K6.below hb) (by omega)
    obtain ⟨n, hn⟩ : ∃ n, n = s.nodes.length + s.br.length := ⟨_, rfl⟩
    have hni : (s.nodes.length : Int) + (s.br.length : Int) = (n : Int) := by rw [hn]; push_cast; rfl
    rw [← hn] at HM hn64
    have HRd := hid fun w => read_any o w
    by_cases em : (matF s.nodes s.br s.l (val o)).1.1 = 0
    · obtain ⟨hfin, hsym⟩ := matF_fin em
      obtain ⟨e00, elen⟩ := matF_00 em
      rw [← hn] at hsym elen
      replace HM : Hid (Calls Try.prog 8 #[.pointer (some ⟨N.n, 0, none⟩), .float .f64 o] w6 fun E w' => ∃ (da : Option Addr) (dn dc : Nat) (l : List Z), E = .returned (.tuple #[.agg #[.int .i64 n, .int .i64 n, .slice da dn dc], .agg #[.int .i64 0, .int .i64 0]]) ∧ dn = l.length ∧ l.map zv = (matF s.nodes s.br s.l (val o)).2 ∧ Sl w' (.slice da dn dc) (l.map C) ∧ Below w6.heap.size w6 w') := hid (HM.mono fun E w' ⟨v, l, h1, h2, h3, h4⟩ => by
        rw [e00, if_pos rfl] at h1
        obtain ⟨da, dc, rfl, -⟩ := own_cap h2
        exact ⟨da, l.length, dc, l, h1, rfl, h3, Sl.of_owns h2, h4⟩)
      replace hn := hid hn
      go_upto_region 8 with (first
        | (go_at_call 9; (with_reducible refine (HRd.out _).mono ?_); rintro E7 w7 ⟨rfl, rfl⟩)
        | (go_at_call 8; (with_reducible refine HM.out.mono ?_); rintro E8 w8 ⟨da, dn, dc, l, rfl, hdn, hl, s8, hb8⟩))
      obtain ⟨m, hmn⟩ : ∃ m, m = n * n := ⟨_, rfl⟩
      have hml : l.length = m := by
        have := congrArg List.length hl
        rw [List.length_map, elen, ← hmn] at this
        exact this
      have hm4 : m ≤ 4096 := by
        rw [hmn]
        exact Nat.mul_le_mul hn64 hn64
      subst hdn
      have hcf : (l.map zv).all cfin = true := by
        rw [List.all_eq_true]
        intro z hz
        rw [hl] at hz
        exact hfin z hz
      have hsy : Hid (pasF E = true → ∀ i j, i < n → j < n → ∀ x y, l[i * n + j]? = some x → l[j * n + i]? = some y → zv x = zv y) := hid fun hp i j hi hj x y hx hy => by
        have h1 := hsym (fun e he => by
          have h2 := List.all_eq_true.1 hp e (hsl ▸ he)
          simp only [Bool.not_eq_true', Bool.or_eq_false_iff, beq_eq_false_iff_ne, ne_eq] at h2
          exact ⟨h2.1, h2.2, hbrs e he⟩) i j hi hj
        rw [← hl, List.getElem?_map, List.getElem?_map, hx, hy] at h1
        exact Option.some.inj h1
      have hfl : Hid (∀ (i : Nat) (x : Z), l[i]? = some x → feq (val x.1) (val x.1) = true ∧ feq (val x.2) (val x.2) = true) := hid fun i x hx => by
        have h1 := List.all_eq_true.1 hcf (zv x) (List.mem_map.2 ⟨x, List.mem_of_getElem? hx, rfl⟩)
        obtain ⟨h2, h3⟩ := cfin_iff.1 h1
        exact ⟨feq_fself h2, feq_fself h3⟩
      have HFN := hid fun w' (h : Sl w' (.slice da l.length dc) (l.map C)) => FiniteNumbers_any l (.slice da l.length dc) w' h (by omega)
      rw [hcf] at HFN
      have hmi : (n : Int) * (n : Int) = (m : Int) := by rw [hmn]; push_cast; rfl
      have hwm : IntKind.i64.wrap (m : Int) = (m : Int) := IntWalk.i64_in _ (by omega)
      have hwn : IntKind.i64.wrap (n : Int) = (n : Int) := IntWalk.i64_in _ (by omega)
      rw [hml] at HFN s8 ⊢
      replace hmn := hid hmn
      clear hsym hfin hl hcf e00 elen em hbrs HRd HM
      have hb9 := bla (.cells #[.int .i64 0, .int .i64 0] 29) (bl_a w8 (.cells #[.int .i64 n, .int .i64 n, .slice da m dc] 35))
      have M9 : MxAt ((w8.alloc (.cells #[.int .i64 n, .int .i64 n, .slice da m dc] 35)).alloc (.cells #[.int .i64 0, .int .i64 0] 29)) w8.heap.size n n (.slice da m dc) := MxAt.below (blk_new _ _) (bl_a _ _)
      have F9 : FltAt ((w8.alloc (.cells #[.int .i64 n, .int .i64 n, .slice da m dc] 35)).alloc (.cells #[.int .i64 0, .int .i64 0] 29)) (w8.heap.size + 1) 0 0 := flt_n _ _ _ (by simp)
      obtain ⟨w9, hw9⟩ : ∃ w9, w9 = (w8.alloc (.cells #[.int .i64 n, .int .i64 n, .slice da m dc] 35)).alloc (.cells #[.int .i64 0, .int .i64 0] 29) := ⟨_, rfl⟩
      rw [← hw9] at hb9 M9 F9 ⊢
      clear hw9
      have b79 := bl2 hb8 hb9
      have b9 := bl2 b6 b79
      have s9 := s8.below hb9
      have n9 := n6.below b79
      have x1 := F9.c0
      have x2 := F9.c1
      clear s8 n6 K6 F6 hb8 hb9 c0 c1 b6
      go_upto_region 11 with (first
        | (go_at_call 10; (with_reducible refine (HNo.out _ b79).mono ?_); rintro E10 w10 ⟨v10, rfl, own10, hb10⟩; obtain ⟨na, nc, rfl, -⟩ := own_cap own10)
        | (go_at_call 11; (with_reducible refine (HBr.out _ (bl2 b79 hb10)).mono ?_); rintro E11 w11 ⟨v11, rfl, own11, hb11⟩; obtain ⟨ba, bc, rfl, -⟩ := own_cap own11))
      have hb911 := bl2 hb10 hb11
      have s11 := s9.below hb911
      have n11 := n9.below hb911
      have M11 := M9.below hb911
      have b11 := bl2 b9 hb911
      have y0 := M11.c0
      have y1 := M11.c1
      have y2 := M11.c2
      clear own10 own11 hb10 hb11 HNo HBr x1 x2 M9 F9 s9 n9 b9 hb911 b79
      go_upto_region 13 with (go_at_call 12; (with_reducible refine (HFN.out _ s11).mono ?_); rintro E12 w12 ⟨rfl, ⟨n12, rfl⟩⟩)
      clear HFN hwm y0 y1
      obtain ⟨hP, hHP⟩ : ∃ p, p = pasF E := ⟨_, rfl⟩
      rw [← hHP] at hsy
      have HP := hid fun nd => passive_any E (.slice ea E.length ec) (w11.drewN nd) (n11.below (below_drewN' (Below.refl _ w11) nd)) (by omega)
      rw [← hHP] at HP
      clear hHP n11 hEL hsl hm hL
      go_wp2
      go_loopw [11] (fun i w' => MirO w11 n i w') (fun i _ => n + 1 - (intOf i).toNat)
      case atStart => exact ⟨0, n12, rfl, by omega, rfl⟩
      case round =>
        obtain ⟨k, nd, rfl, hk, rfl⟩ := hrel
        by_cases hkn : k < n
        · have g3 : (k : Int) < (n : Int) := by omega
          cases hP with
          | false =>
            clear hsy
            go_wp2_with (go_at_call 13; (with_reducible refine (HP.out _).mono ?_); rintro E13 w13 ⟨rfl, rfl⟩)
            go_ret
            exact ⟨rfl, below_drewN' b11 _⟩
          | true =>
            go_wp2_with (go_at_call 13; (with_reducible refine (HP.out _).mono ?_); rintro E13 w13 ⟨rfl, rfl⟩)
            go_loopw [12] (fun j w' => MirI w11 k j w') (fun j _ => k + 1 - (intOf j).toNat)
            case atStart => exact ⟨0, nd, rfl, by omega, rfl⟩
            case round =>
              obtain ⟨q, nd2, rfl, hq, rfl⟩ := hrel
              by_cases hqk : q < k
              · have g4 : (q : Int) < (k : Int) := by omega
                obtain ⟨p, hp⟩ : ∃ p, p = k * n := ⟨_, rfl⟩
                obtain ⟨r, hr⟩ : ∃ r, r = q * n := ⟨_, rfl⟩
                obtain ⟨p1, hp1⟩ : ∃ p1, p1 = p + q := ⟨_, rfl⟩
                obtain ⟨r1, hr1⟩ : ∃ r1, r1 = r + k := ⟨_, rfl⟩
                have hmp : (k : Int) * (n : Int) = (p : Int) := by rw [hp]; push_cast; rfl
                have hmr : (q : Int) * (n : Int) = (r : Int) := by rw [hr]; push_cast; rfl
                have hap : (p : Int) + (q : Int) = (p1 : Int) := by rw [hp1]; push_cast; rfl
                have har : (r : Int) + (k : Int) = (r1 : Int) := by rw [hr1]; push_cast; rfl
                have hpl : p1 < m := by
                  rw [hp1, hp, hmn.out]
                  have := Nat.mul_le_mul_right n (show k + 1 ≤ n from hkn)
                  rw [Nat.succ_mul] at this
                  omega
                have hrl : r1 < m := by
                  rw [hr1, hr, hmn.out]
                  have := Nat.mul_le_mul_right n (show q + 1 ≤ n by omega)
                  rw [Nat.succ_mul] at this
                  omega
                have hwp : IntKind.i64.wrap (p : Int) = (p : Int) := IntWalk.i64_in _ (by omega)
                have hwr : IntKind.i64.wrap (r : Int) = (r : Int) := IntWalk.i64_in _ (by omega)
                have hwp1 : IntKind.i64.wrap (p1 : Int) = (p1 : Int) := IntWalk.i64_in _ (by omega)
                have hwr1 : IntKind.i64.wrap (r1 : Int) = (r1 : Int) := IntWalk.i64_in _ (by omega)
                have gp : (p1 : Int) < (m : Int) := by omega
                have gr : (r1 : Int) < (m : Int) := by omega
                obtain ⟨⟨x1, x2⟩, hx⟩ : ∃ z, l[p1]? = some z := ⟨l[p1]'(by omega), List.getElem?_eq_getElem (by omega)⟩
                obtain ⟨⟨y1, y2⟩, hy⟩ : ∃ z, l[r1]? = some z := ⟨l[r1]'(by omega), List.getElem?_eq_getElem (by omega)⟩
                have hxy : zv (x1, x2) = zv (y1, y2) := hsy.out (by trivial) k q hkn (by omega) _ _ (by rw [← hp, ← hp1]; exact hx) (by rw [← hr, ← hr1]; exact hy)
                obtain ⟨e1, e2⟩ := Prod.mk.inj hxy
                obtain ⟨f1, f2⟩ := hfl.out _ _ hy
                have h1 : feq (val x1) (val y1) = true := by rw [e1]; exact f1
                have h2 : feq (val x2) (val y2) = true := by rw [e2]; exact f2
                obtain ⟨a', cap', e3, hc⟩ := s11.cz
                rw [hml] at e3
                cases e3
                obtain ⟨b1, off, rfl, cx⟩ := hc _ _ hx
                obtain ⟨b2, off2, e4, cy⟩ := hc _ _ hy
                cases e4
                clear hc hx hy hxy e1 e2 f1 f2 hsy hfl s11 HP
                replace hp := hid hp
                replace hr := hid hr
                replace hp1 := hid hp1
                replace hr1 := hid hr1
                go_upto_region 19 with (fail)
                go_quiet (fail)
                go_wp2
                go_roundw
                case rel => exact ⟨q + 1, _, by go_num, hqk, rfl⟩
                case measure => simp [intOf] <;> omega
              · obtain rfl : q = k := by omega
                clear hsy hfl s11 HP
                go_wp2
                go_roundw
                case rel => exact ⟨q + 1, _, by go_num, hkn, rfl⟩
                case measure => simp [intOf] <;> omega
        · obtain rfl : k = n := by omega
          clear hsy hfl s11 HP
          go_wp2
          go_ret
          exact ⟨rfl, below_drewN' b11 _⟩
    · have hm2 := matF_bad em
      obtain ⟨⟨⟨m1, m2⟩, mD⟩, hmm⟩ : ∃ r, r = matF s.nodes s.br s.l (val o) := ⟨_, rfl⟩
      rw [← hmm] at HM em hm2
      replace HM : Hid (Calls Try.prog 8 #[.pointer (some ⟨N.n, 0, none⟩), .float .f64 o] w6 fun E w' => ∃ (da : Option Addr) (dc : Nat), E = .returned (.tuple #[.agg #[.int .i64 0, .int .i64 0, .slice da 0 dc], .agg #[.int .i64 m1, .int .i64 m2]]) ∧ Below w6.heap.size w6 w') := hid (HM.mono fun E w' ⟨v, l, h1, h2, h3, h4⟩ => by
        rw [if_neg em] at h1
        obtain ⟨da, dc, rfl, -⟩ := own_cap h2
        have hl0 : l.length = 0 := by
          have := congrArg List.length h3
          rw [List.length_map, hm2] at this
          exact this
        rw [hl0] at h1
        exact ⟨da, dc, h1, h4⟩)
      have em0 : (m1 == 0) = false := by simpa using em
      clear hmm hm2 em
      go_upto_region 8 with (first
        | (go_at_call 9; (with_reducible refine (HRd.out _).mono ?_); rintro E7 w7 ⟨rfl, rfl⟩)
        | (go_at_call 8; (with_reducible refine HM.out.mono ?_); rintro E8 w8 ⟨da, dc, rfl, hb8⟩))
      have hb9 := bla (.cells #[.int .i64 m1, .int .i64 m2] 29) (bl_a w8 (.cells #[.int .i64 0, .int .i64 0, .slice da 0 dc] 35))
      have M9 : MxAt ((w8.alloc (.cells #[.int .i64 0, .int .i64 0, .slice da 0 dc] 35)).alloc (.cells #[.int .i64 m1, .int .i64 m2] 29)) w8.heap.size 0 0 (.slice da 0 dc) := MxAt.below (blk_new _ _) (bl_a _ _)
      have F9 : FltAt ((w8.alloc (.cells #[.int .i64 0, .int .i64 0, .slice da 0 dc] 35)).alloc (.cells #[.int .i64 m1, .int .i64 m2] 29)) (w8.heap.size + 1) m1 m2 := flt_n _ _ _ (by simp)
      obtain ⟨w9, hw9⟩ : ∃ w9, w9 = (w8.alloc (.cells #[.int .i64 0, .int .i64 0, .slice da 0 dc] 35)).alloc (.cells #[.int .i64 m1, .int .i64 m2] 29) := ⟨_, rfl⟩
      rw [← hw9] at hb9 M9 F9 ⊢
      clear hw9
      have b9 := bl2 (bl2 b6 hb8) hb9
      have x0 := M9.c2
      have x1 := F9.c0
      have x2 := F9.c1
      clear HM
      go_wp2
      go_ret
      exact ⟨rfl, b9⟩
theorem mirrored_call (L : List El) (o : Nat) (hL : ∀ e ∈ L, e.kind < 256 ∧ IsW e.v) (a : Option Addr) (n cap : Nat) (hcap : n ≤ cap) (W : World) (hK : KsAt W (.slice a n cap) L) :
    Calls Try.prog 3 #[.slice a n cap, .int .u64 o] W fun e w' => e = .returned (.bool true) ∧ Below W.heap.size W w' := by
  have h := hK
  obtain ⟨_, _, e, -⟩ := h
  cases e
  exact mirrored_walk L o hL a cap hcap W hK
end Go.Proofs.Ytgcakhmdmajplaa

