/- gridworkwide.Up: a number times a power of two. Conditions: the row, the power not too long. -/
import Derived.Test.YtfalbdlfopfgcaaGreatDoorWg
import Derived.Deep.RegionHeld3
import Derived.Deep.AppendLies
namespace Go.Proofs.YtfalbdlfopfgcaaGreatDoor
open Go.RowKit

theorem step_app_w {ops : Array Oper} {o : Oper} {a : Act} {K : Act → World → Prop} {Q : Exit → Act → World → Prop} {E : Prop} {w : World} (hgd : o.guard = none) (s x : Operand)
    (ho : o.op = .call { callee := .builtin .append, args := #[s, x], argTypes := #[83, 83] }) (base : Nat) (uv : Value) (n : Nat) (xs : List Value) (b : Nat) (u : Value) (hu1 : u.oneCell' = true) (h63 : n ≤ 10000000) (hs : a.eval s = uv) (hx : a.eval x = .slice (some ⟨b, 0, none⟩) 1 1)
    (hown : w.ownsRow base 90 1 uv n xs) (hnew : w.cell? ⟨b, 0, none⟩ = some u) (hbase : base ≤ w.heap.size)
    (h : ∀ v' w', w'.ownsRow base 90 1 v' (n + 1) (xs ++ [u]) → Below base w w' → K (a.put o.dst v') w') :
    if Region.wanted o (yielded ops a.tmps) = true then Oper.wp Tryz.prog o a w K Q else E := by
  obtain ⟨iC, hi1, hz0, hz1, hz2⟩ := info_parts info_u32
  refine step_append_lies w hgd s x _ ho base 90 iC _ 1 4 Tryz.underlying83 hi1 hz0 hz1 hz2 rfl (by decide) uv n xs hs hown ⟨b, 0, none⟩ 1 1 [u] hx rfl (fun j u' hu => ?_) (by simpa using hu1) (by decide) (by simp only [maxLen]; omega) (by omega) hbase _ rfl ?_
  · rw [Go.WideShapes.add_plain]
    match j, hu with
    | 0, hu =>
      simp at hu
      subst hu
      exact hnew
    | j + 1, hu => simp at hu
  · intro g cap w' k1 k2 k3 k4
    exact h _ w' k1 ((Below.refl base w).grown k2 hbase (fun k hk => (hown.lt k hk).1))
theorem trim_own (w : World) {base : Nat} (a : Option Addr) (c n : Nat) (l : List Nat) (hl : l.length ≤ 1000000) (h : w.ownsRow base 90 1 (.slice a n c) n (l.map wrd)) : Calls Tryz.prog 80 #[.slice a n c] w fun E w' => E = .returned (.slice a (trimN l l.length) c) ∧ w' = w := by
  obtain rfl := own_len h
  exact wtrimmed_any w a c l hl (Sl.of_owns h)
theorem or_up {c X s : Nat} (hc : c < 2 ^ s) (hX : ∃ x, X = x * 2 ^ s) (hXl : X + c < 18446744073709551616) : bits .or .u64 (c : Int) (X : Int) = ((c + X : Nat) : Int) := by
  obtain ⟨x, rfl⟩ := hX
  rw [bits_or_u64_nat c _ (by omega) (by omega), Nat.or_comm, Nat.mul_comm, ← Nat.two_pow_add_eq_or_of_lt hc, Nat.add_comm]
/-- A box of a number: its sign, its words' slice. -/
def IntB (w : World) (b : Nat) (x y : Value) : Prop := w.heap[b]? = some (.cells #[x, y] 85 (0, 0))
section
variable {w : World} {b : Nat} {x y : Value}
theorem IntB.c0 (h : IntB w b x y) : w.cell? ⟨b, 0, none⟩ = some x := by unfold IntB at h; simp [World.cell?, h]
theorem IntB.c1 (h : IntB w b x y) : w.cell? ⟨b, 1, none⟩ = some y := by unfold IntB at h; simp [World.cell?, h]
theorem IntB.fr (h : IntB w b x y) (o : Nat) : w.frozen? ⟨b, o, none⟩ = false := by unfold IntB at h; simp [World.frozen?, h]
theorem IntB.lt (h : IntB w b x y) : b < w.heap.size := (Array.getElem?_eq_some_iff.1 h).1
theorem IntB.of {w' : World} {B : Nat} (h : IntB w b x y) (hb : Below B w w') (hl : b < B) : IntB w' b x y := by
  unfold IntB at *
  rw [hb.block b hl]
  exact h
theorem IntB.below {w' : World} (h : IntB w b x y) (hb : Below w.heap.size w w') : IntB w' b x y := h.of hb h.lt
theorem IntB.drewN (h : IntB w b x y) (k : Nat) : IntB (w.drewN k) b x y := h
theorem IntB.new (w : World) (x y : Value) : IntB (w.alloc (.cells #[x, y] 85)) w.heap.size x y := by
  show (w.heap.push _)[w.heap.size]? = _
  simp
theorem IntB.alloc (h : IntB w b x y) (o : Obj) : IntB (w.alloc o) b x y := h.below ((Below.refl _ w).alloc (Nat.le_refl _) _)
theorem IntB.set (h : IntB w b x y) (u v : Value) : IntB ((w.setCell ⟨b, 0, none⟩ u).setCell ⟨b, 1, none⟩ v) b u v := by
  have h1 := heap_setCell_same w b 0 _ _ u h
  have h2 := heap_setCell_same (w.setCell ⟨b, 0, none⟩ u) b 1 _ _ v h1
  exact h2
end
theorem below_mono' {B B' : Nat} {w w' : World} (h : Below B w w') (hb : B' ≤ B) : Below B' w w' := ⟨h.os, h.tape, h.output, h.size, fun k hk => h.block k (by omega)⟩
theorem below_set2i {B g : Nat} {w w' : World} (h : Below B w w') (hg : B ≤ g) (u v : Value) : Below B w ((w'.setCell ⟨g, 0, none⟩ u).setCell ⟨g, 1, none⟩ v) := below_st (below_st h hg _ _) hg _ _
/-- A row of words stays where another block is stored into. -/
theorem Sl.setI {w : World} {v : Value} {l : List Nat} (h : Sl w v (l.map wrd)) {b : Nat} {x y : Value} (hb : IntB w b x y) (hx : ∀ d, x ≠ wrd d) (hy : ∀ d, y ≠ wrd d) (o : Nat) (u : Value) : Sl (w.setCell ⟨b, o, none⟩ u) v (l.map wrd) := by
  obtain ⟨a, cap, rfl, hr, hc, hl⟩ := h
  refine ⟨a, cap, rfl, fun hne => ?_, hc, hl⟩
  obtain ⟨b', off, rfl, hcell⟩ := hr hne
  refine ⟨b', off, rfl, fun i z hz => ?_⟩
  have h1 := hcell i z hz
  obtain ⟨d, -, rfl⟩ := List.mem_map.1 (List.mem_of_getElem? hz)
  rw [World.cell?_setCell_other _ _ _ _ (fun e => ?_)]
  · exact h1
  · have e2 := congrArg Addr.block e
    simp only at e2
    unfold IntB at hb
    subst e2
    simp only [World.cell?, hb] at h1
    match off + i, h1 with
    | 0, h1 => simp at h1; exact hx d h1
    | 1, h1 => simp at h1; exact hy d h1
    | j + 2, h1 => simp at h1
/-- A number told out of a row that the call owns: the box is stored into. -/
theorem int_fin {w w6 : World} {B b m c6 N T : Nat} {L : List Nat} {a6 : Option Addr} {x y : Value} (hb : Below w.heap.size w w6) (hb2 : w.heap.size ≤ b) (J : IntB w6 b x y) (hx : ∀ d, x ≠ wrd d) (hy : ∀ d, y ≠ wrd d) (sg : Bool)
    (hown : w6.ownsRow B 90 1 (.slice a6 m c6) m (L.map wrd)) (hk : Wok L) (hv : wv L = N) (hT : T = trimN L L.length) :
    RetI w sg N (.returned (.agg #[.bool sg, .slice a6 T c6])) ((w6.setCell ⟨b, 0, none⟩ (.bool sg)).setCell ⟨b, 1, none⟩ (.slice a6 T c6)) := by
  subst hT
  obtain rfl := own_len hown
  have h1 := Sl.setI (Sl.of_owns hown) J hx hy 0 (.bool sg)
  have J2 : IntB (w6.setCell ⟨b, 0, none⟩ (.bool sg)) b (.bool sg) y := heap_setCell_same w6 b 0 _ _ (.bool sg) J
  have h2 := Sl.setI h1 J2 (fun d e => by cases e) hy 1 (.slice a6 (trimN L L.length) c6)
  refine ⟨_, rfl, ?_, below_set2i hb hb2 _ _⟩
  rw [← hv]
  exact Wn.trim hk h2
def UpLoop (w1 : World) (B : Nat) (l : List Nat) (q s : Nat) (v bo i : Value) (w' : World) : Prop := ∃ (k c : Nat) (done : List Nat), i = .int .i64 (k : Int) ∧ bo = .int .u64 (c : Int) ∧ k ≤ l.length ∧ done.length = k ∧ Wok done ∧ c < 2 ^ s ∧ wv done + c * 4294967296 ^ k = 2 ^ s * wv (l.take k) ∧ w'.ownsRow B 90 1 v (q + k) ((List.replicate q 0 ++ done).map wrd) ∧ Below B w1 w'
set_option maxRecDepth 100000 in
set_option maxHeartbeats 4000000 in
theorem wUp_any (w : World) (sg : Bool) (va : Value) (a n : Nat) (ha : Wn w va a) (hal : (wds a).length ≤ 100000) (hn : n ≤ 100000) : Calls Tryz.prog 72 #[.agg #[.bool sg, va], .int .i64 n] w (RetI w sg (a * 2 ^ n)) := by
  have HA0 := hid ha
  obtain ⟨aa, ca, rfl, -, -, hca⟩ := Sl.cw ha
  clear ha
  obtain ⟨w1, hw1⟩ : ∃ w1, w1 = (w.alloc (.cells #[.bool sg, .slice aa (wds a).length ca] 85)).alloc (.cells #[.bool false, .slice none 0 0] 85) := ⟨_, rfl⟩
  have b1 : Below w.heap.size w w1 := by rw [hw1]; exact ((Below.refl _ w).alloc (Nat.le_refl _) _).alloc (by simp) _
  by_cases h0 : a = 0
  · subst h0
    rw [wds_0] at HA0 hw1 ⊢
    have i0 := (IntB.new w (.bool sg) (.slice aa 0 ca)).alloc (.cells #[.bool sg, .slice aa 0 ca] 85)
    have i1 := IntB.new (w.alloc (.cells #[.bool sg, .slice aa 0 ca] 85)) (.bool sg) (.slice aa 0 ca)
    rw [World.size_alloc] at i1
    go_enter Tryz.func72, Tryz.ntmps72
    go_wp2
    refine bodyPost_ret (results_int rfl _ _ (w.heap.size + 1) (.bool sg) (.slice aa 0 ca) rfl i1.c0 i1.c1) rfl ?_
    have b2 : Below w.heap.size w ((w.alloc (.cells #[.bool sg, .slice aa 0 ca] 85)).alloc (.cells #[.bool sg, .slice aa 0 ca] 85)) := ((Below.refl _ w).alloc (Nat.le_refl _) _).alloc (by simp) _
    exact ⟨_, rfl, by rw [Nat.zero_mul]; exact HA0.out.below b2, b2⟩
  · obtain ⟨l, hl⟩ : ∃ l, l = wds a := ⟨_, rfl⟩
    have HA := hid (show wv l = a by rw [hl, wv_wds])
    have HK := hid (show Wok l by rw [hl]; exact wok_wds a)
    have hl0 : 0 < l.length := by rw [hl, wds_pos h0]; simp
    rw [← hl] at hal hca hw1 ⊢
    clear hl HA0
    obtain ⟨q, hq⟩ : ∃ q, q = n / 32 := ⟨_, rfl⟩
    obtain ⟨s, hs⟩ : ∃ s, s = n % 32 := ⟨_, rfl⟩
    have g1 : (n : Int) / 32 = (q : Int) := by omega
    have g2 : (n : Int) % 32 = (s : Int) := by omega
    have g3 : ((l.length : Int) == 0) = false := by rw [beq_eq_false_iff_ne]; omega
    have hs32 : s < 32 := by rw [hs]; exact Nat.mod_lt _ (by decide)
    have hqn : q ≤ 10000 := by rw [hq]; omega
    have hnq := hid (show n = 32 * q + s by rw [hq, hs]; exact (Nat.div_add_mod n 32).symm)
    replace hq := hid hq
    replace hs := hid hs
    have hmk := made_u32 q (by omega)
    go_enter Tryz.func72, Tryz.ntmps72
    go_wp2
    have i0 := (IntB.new w (.bool sg) (.slice aa l.length ca)).alloc (.cells #[.bool false, .slice none 0 0] 85)
    have i1 := IntB.new (w.alloc (.cells #[.bool sg, .slice aa l.length ca] 85)) (.bool false) (.slice none 0 0)
    have z1 : w1.heap.size = w.heap.size + 1 + 1 := by rw [hw1]; simp
    rw [World.size_alloc] at i1
    rw [← hw1] at i0 i1 ⊢
    have hown : (w1.alloc (.cells (Array.replicate q (Value.int .u32 0)) 90)).ownsRow (w.heap.size + 1 + 1) 90 1 (.slice (some ⟨w.heap.size + 1 + 1, 0, none⟩) q q) q ((List.replicate q 0 ++ []).map wrd) := by
      refine ⟨by simp, .inr ⟨w.heap.size + 1 + 1, q, Array.replicate q (Value.int .u32 0), rfl, Nat.le_refl _, ?_, Nat.le_refl _, by simp only [maxLen]; omega, by simp, ?_⟩⟩
      · rw [← z1]
        show (w1.heap.push _)[w1.heap.size]? = _
        simp
      · simp [wrd]
    have bw : Below (w.heap.size + 1 + 1) w1 (w1.alloc (.cells (Array.replicate q (Value.int .u32 0)) 90)) := (Below.refl _ _).alloc (by omega) _
    have HO0 := hid hown
    have HB0 := hid bw
    obtain ⟨w2, hw2⟩ : ∃ w2, w2 = w1.alloc (.cells (Array.replicate q (Value.int .u32 0)) 90) := ⟨_, rfl⟩
    rw [← hw2] at HO0 HB0 ⊢
    have I0 := hid i0
    have I1 := hid i1
    clear hw1 hw2 hmk hown bw i0 i1
    have hz1 := hid z1
    clear z1
    go_loopw [5, 6, 7] (fun v bo i w' => UpLoop w1 (w.heap.size + 1 + 1) l q s v bo i w') (fun _ _ i _ => l.length + 1 - (intOf i).toNat)
    case atStart => exact ⟨0, 0, [], rfl, rfl, Nat.zero_le _, rfl, fun d hd => absurd hd (List.not_mem_nil), Nat.two_pow_pos _, by simp [wv], HO0.out, HB0.out⟩
    case round =>
      obtain ⟨k, c, done, rfl, rfl, hk, hdl, hdk, hc, heq, hown, hbw⟩ := hrel
      have HEQ := hid heq
      have HDK := hid hdk
      have HDL := hid hdl
      clear heq hdk hdl
      have hp32 : 2 ^ s ≤ 2147483648 := Nat.pow_le_pow_right (show 0 < 2 by decide) (show s ≤ 31 by omega)
      have j0 := I0.out.of hbw (by omega)
      have hBs : w.heap.size + 1 + 1 ≤ wr.heap.size := by have := hbw.size; rw [hz1.out] at this; exact this
      have x0 := j0.c0
      have x1 := j0.c1
      by_cases hkl : k < l.length
      · obtain ⟨x, hx⟩ : ∃ x, l[k]? = some x := ⟨l[k]'hkl, List.getElem?_eq_getElem hkl⟩
        obtain ⟨ba, oa, rfl, hcell⟩ := hca k x hx
        have hba := World.block_lt_of_cell? _ _ (hcell k x hx)
        have c0 := ((b1.trans (below_mono' hbw (by omega))).cell (p := ⟨ba, oa + k, none⟩) hba).trans (hcell k x hx)
        have hxl := wok_get HK.out hx
        have HX := hid hx
        obtain ⟨X, hX⟩ : ∃ X, X = x * 2 ^ s := ⟨_, rfl⟩
        have hXl : X + c < 18446744073709551616 := by
          have h1 : x * 2 ^ s ≤ 4294967295 * 2147483648 := Nat.mul_le_mul (by omega) hp32
          omega
        have g4 : (x : Int) * 2 ^ s = (X : Int) := by rw [hX]; push_cast; rfl
        have g5 : IntKind.u64.wrap (X : Int) = (X : Int) := by rw [IntKind.wrap_u64]; omega
        have g6 : bits .or .u64 (c : Int) (X : Int) = ((c + X : Nat) : Int) := or_up hc ⟨x, hX⟩ hXl
        obtain ⟨C, hC⟩ : ∃ C, C = c + X := ⟨_, rfl⟩
        rw [← hC] at g6
        obtain ⟨d, hd⟩ : ∃ d, d = C % 4294967296 := ⟨_, rfl⟩
        have g7 : IntKind.u32.wrap (C : Int) = (d : Int) := by rw [IntKind.wrap_u32]; omega
        obtain ⟨e, he⟩ : ∃ e, e = C / 4294967296 := ⟨_, rfl⟩
        have g8 : (C : Int) / 4294967296 = (e : Int) := by omega
        replace hX := hid hX
        replace hC := hid hC
        replace hd := hid hd
        replace he := hid he
        clear hx hcell hca
        go_wp2_with (at_builtin; go_loud (refine wpList_app1 rfl _ _ 83 rfl (w.heap.size + 1 + 1) 90 _ 4 Tryz.underlying83 info_u32 rfl _ (q + k) _ (.int .u32 d) rfl rfl rfl (by exact hown) (by first | omega | (simp; omega)) (by first | omega | (simp; omega)) (by first | omega | (simp; omega)) ?_); intro v' w' h1 h2 h3)
        obtain ⟨q1, q2⟩ := up_step HDL.out hc HEQ.out HK.out HX.out
        rw [← hX.out, ← hC.out, ← hd.out, ← he.out] at q1
        rw [← hX.out, ← hC.out, ← he.out] at q2
        have hdl2 : d < 4294967296 := by rw [hd.out]; exact Nat.mod_lt _ (by decide)
        have hb2 := hbw.trans h2
        go_roundw
        case rel => exact ⟨k + 1, e, done ++ [d], by go_num, rfl, hkl, by simp [HDL.out], wok_app HDK.out (wok_one hdl2), q2, q1, by rw [← List.append_assoc, List.map_append]; exact h1, hb2⟩
        case measure => simp [intOf]; omega
      · obtain rfl : k = l.length := by omega
        have g6 : ¬ (l.length : Int) < (l.length : Int) := by omega
        have j1 := I1.out.of hbw (by omega)
        have y0 := j1.c0
        have y1 := j1.c1
        have f0 := j1.fr 0
        have f1 := j1.fr 1
        have g7 : IntKind.u32.wrap (c : Int) = (c : Int) := by rw [IntKind.wrap_u32]; omega
        have HU := hid (up_end (q := q) HDL.out HEQ.out hnq.out)
        clear hca
        go_wp2
        have hX : Below wr.heap.size wr (wr.alloc (.cells #[.int .u32 c] 90)).drew := ((Below.refl _ wr).alloc (Nat.le_refl _) _).trans ⟨rfl, rfl, rfl, Nat.le_refl _, fun _ _ => rfl⟩
        obtain ⟨va, vc, rfl⟩ := own_sl hown
        have x2 := (hX.cell (p := ⟨w.heap.size, 0, none⟩) (World.block_lt_of_cell? _ _ x0)).trans x0
        have hL : (List.replicate q 0 ++ done).map wrd ++ [.int .u32 c] = (List.replicate q 0 ++ done ++ [c]).map wrd := (List.map_append (l₁ := List.replicate q 0 ++ done) (l₂ := [c])).symm
        obtain ⟨T, hT⟩ : ∃ T, T = trimN (List.replicate q 0 ++ done ++ [c]) (List.replicate q 0 ++ done ++ [c]).length := ⟨_, rfl⟩
        have HTr := hid fun (w6 : World) (a6 : Option Addr) (c6 : Nat) (h6 : w6.ownsRow (w.heap.size + 1 + 1) 90 1 (.slice a6 (q + l.length + 1) c6) (q + l.length + 1) ((List.replicate q 0 ++ done).map wrd ++ [.int .u32 c])) => trim_own w6 a6 c6 _ (List.replicate q 0 ++ done ++ [c]) (by simp [HDL.out]; omega) (by rw [← hL]; exact h6)
        rw [← hT] at HTr
        replace hT := hid hT
        replace hL := hid hL
        have HOW := hid hown
        clear x1 hown I0 I1 j0 HO0
        go_region_law (first
          | (apply step_app_w rfl _ _ rfl (w.heap.size + 1 + 1) _ (q + l.length) _ wr.heap.size (.int .u32 c) rfl (by omega); (· rfl); (· rfl); (· exact owns_below HOW.out hX); (· simp); (· have := hX.size; omega); intro v6 w6 hown6 hb6; obtain ⟨a6, c6, rfl⟩ := own_sl hown6; have J6 := (j1.of hX (by omega)).of hb6 (by omega); have e0 := J6.c0; have e1 := J6.c1; have e2 := J6.fr 0; have e3 := J6.fr 1; have x6 := (hb6.cell (p := ⟨w.heap.size, 0, none⟩) (show w.heap.size < _ by omega)).trans x2)
          | (go_simp; go_at_call 80; ((with_reducible refine (HTr.out _ _ _ hown6).mono ?_); rintro E3 w3 ⟨rfl, rfl⟩)))
        all_goals
          have hB6 : Below w.heap.size w w3 := (b1.trans (below_mono' hbw (by omega))).trans ((below_mono' hX (by omega)).trans (below_mono' hb6 (by omega)))
          have hfin := int_fin (N := a * 2 ^ n) hB6 (show w.heap.size ≤ w.heap.size + 1 by omega) J6 (fun d e => by cases e) (fun d e => by cases e) sg (by rw [← hL.out]; exact hown6) (wok_app (wok_app (wok_rep q) HDK.out) (wok_one (show c < 4294967296 by omega))) (by rw [HU.out, HA.out]) hT.out
          have J7 := J6.set (.bool sg) (.slice a6 T c6)
          clear e0 e1 e2 e3 x0 x2 x6 y0 y1 f0 f1 hown6 J6 HTr HOW
          go_wp2
          refine bodyPost_ret (results_int rfl _ _ (w.heap.size + 1) (.bool sg) (.slice a6 T c6) rfl J7.c0 J7.c1) rfl ?_
          exact hfin
end Go.Proofs.YtfalbdlfopfgcaaGreatDoor

