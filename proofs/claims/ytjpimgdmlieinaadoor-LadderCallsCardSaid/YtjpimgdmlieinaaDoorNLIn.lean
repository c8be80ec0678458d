/- ladder.Input: what one sees of a ladder. Condition: kinds are bytes, Values have 64 bits. -/
import Derived.Test.YtjpimgdmlieinaaDoorNLNet
import Derived.Test.YtjpimgdmlieinaaDoorNAdm
namespace Go.Proofs.YtjpimgdmlieinaaDoor
open Go.RowKit Go.Maps

def cinv (z : CV) : CV := cdiv (cv 4607182418800017408 0) z
/-- The admittance across the rung i. -/
def inY (n i : Nat) (t : El) (o : Option Nat) (z : CV) : CV := if i + 1 < n then cadd (recG true t o) (cinv z) else recG true t o
def inStep (n i : Nat) (s t : El) (o : Option Nat) (z : CV) : Int × CV :=
  if recE true t o = 0 then
    (if cfin (inY n i t o z) = true then
      (if recE false s o = 0 then (if cfin (cadd (recG false s o) (cinv (inY n i t o z))) = true then (0, cadd (recG false s o) (cinv (inY n i t o z))) else (6, (val 0, val 0))) else (recE false s o, (val 0, val 0)))
    else (6, (val 0, val 0)))
  else (recE true t o, (val 0, val 0))
def inN (L : List El) (n : Nat) (o : Option Nat) : Nat → CV → CV × (Int × Int)
  | 0, z => (z, (0, 0))
  | i + 1, z => if (inStep n i (L.getD (2 * i) el0) (L.getD (2 * i + 1) el0) o z).1 = 0 then inN L n o i (inStep n i (L.getD (2 * i) el0) (L.getD (2 * i + 1) el0) o z).2 else ((val 0, val 0), ((inStep n i (L.getD (2 * i) el0) (L.getD (2 * i + 1) el0) o z).1, (i : Int)))
def inF (S T : List El) (o : Option Nat) : CV × (Int × Int) :=
  if aboveE o = 0 then
    (if (ladNetF S T).1 = (0, 0) then inN (ladN S T S.length) S.length o S.length (val 0, val 0) else ((val 0, val 0), (ladNetF S T).1))
  else ((val 0, val 0), (aboveE o, -1))
/-- What ladder.Input hands back. -/
def RetIn (w : World) (r : CV × (Int × Int)) (E : Ending) (w' : World) : Prop := ∃ x y, E = .returned (.tuple #[.complex .f64 x y, .agg #[.int .i64 r.2.1, .int .i64 r.2.2]]) ∧ Below w.heap.size w w' ∧ cv x y = r.1 ∧ IsW x ∧ IsW y
theorem RetIn.mk {w : World} {r : CV × (Int × Int)} {x y : Nat} {e a : Int} {E : Ending} {w' : World} (h : E = .returned (.tuple #[.complex .f64 x y, .agg #[.int .i64 e, .int .i64 a]])) (hb : Below w.heap.size w w') (h1 : IsW x) (h2 : IsW y) (hr : r = (cv x y, (e, a))) : RetIn w r E w' := by
  subst hr
  exact ⟨x, y, h, hb, rfl, h1, h2⟩
/-- Within the loop: k rungs are left. -/
def InLoop (W : World) (L : List El) (n : Nat) (o : Option Nat) (lv : Value) (r : CV × (Int × Int)) (i z : Value) (w : World) : Prop := ∃ (k : Nat) (iv : Int) (x y : Nat), i = .int .i64 iv ∧ iv = (k : Int) - 1 ∧ k ≤ n ∧ z = .complex .f64 x y ∧ IsW x ∧ IsW y ∧ inN L n o k (cv x y) = r ∧ ElsAt w lv L ∧ FltAt w W.heap.size 0 0 ∧ Below W.heap.size W w
theorem aboveE_cases (o : Option Nat) : (feq (fsub o o) (val 0) = false ∧ aboveE o = 5) ∨ (feq (fsub o o) (val 0) = true ∧ ((flt (val 0) o = false ∧ aboveE o = 2) ∨ (flt (val 0) o = true ∧ aboveE o = 0))) := by
  unfold aboveE fin
  cases feq (fsub o o) (val 0)
  · exact .inl ⟨rfl, rfl⟩
  · cases flt (val 0) o
    · exact .inr ⟨rfl, .inl ⟨rfl, rfl⟩⟩
    · exact .inr ⟨rfl, .inr ⟨rfl, rfl⟩⟩

/-- The fault alone. -/
def RetNW (w : World) (f : Int × Int) (E : Ending) (w' : World) : Prop := ∃ p, E = .returned (.tuple #[.pointer p, .agg #[.int .i64 f.1, .int .i64 f.2]]) ∧ Below w.heap.size w w'
theorem RetNet.weak {w : World} {r : (Int × Int) × Option NetS} {E : Ending} {w' : World} (h : RetNet w r E w') : RetNW w r.1 E w' := by
  obtain ⟨f, os⟩ := r
  cases os with
  | none => exact ⟨none, h.1, h.2⟩
  | some s =>
    obtain ⟨N, V, h1, _, h2⟩ := h
    exact ⟨_, h1, h2⟩
theorem ladNetF_ok {S T : List El} (h : (ladNetF S T).1 = (0, 0)) : S.length = T.length ∧ 0 < S.length ∧ S.length ≤ 16 := by
  unfold ladNetF at h
  split at h
  · rename_i h1
    split at h
    · cases h
    · split at h
      · cases h
      · exact ⟨h1, by omega, by omega⟩
  · cases h
theorem ladN_good {S T : List El} (hs : ∀ e ∈ S, e.kind < 256 ∧ IsW e.v) (ht : ∀ e ∈ T, e.kind < 256 ∧ IsW e.v) (k : Nat) : ∀ e ∈ ladN S T k, e.kind < 256 ∧ IsW e.v := by
  have gd : ∀ (L : List El) (i : Nat), (∀ e ∈ L, e.kind < 256 ∧ IsW e.v) → (L.getD i el0).kind < 256 ∧ IsW (L.getD i el0).v := by
    intro L i h
    rw [List.getD_eq_getElem?_getD]
    cases hh : L[i]? with
    | none => exact ⟨by show 0 < 256; omega, isW_0⟩
    | some e => exact h e (List.mem_of_getElem? hh)
  induction k with
  | zero => intro e h; simp [ladN] at h
  | succ k ih =>
    intro e h
    simp only [ladN, ladE, List.mem_append, List.mem_cons, List.not_mem_nil, or_false] at h
    rcases h with h | rfl | rfl
    · exact ih e h
    · exact gd S k hs
    · exact gd T k ht
/-- The list, the fault's cell; nothing else is turned. -/
def InW (W : World) (lv : Value) (L : List El) (w : World) : Prop := ElsAt w lv L ∧ FltAt w W.heap.size 0 0 ∧ Below W.heap.size W w
theorem InW.drewN {W w : World} {lv : Value} {L : List El} (h : InW W lv L w) (n : Nat) : InW W lv L (w.drewN n) := ⟨h.1, h.2.1, below_drewN' h.2.2 n⟩
theorem InW.flt {W w : World} {lv : Value} {L : List El} (h : InW W lv L w) : FltAt w W.heap.size 0 0 := h.2.1
theorem InW.bl {W w : World} {lv : Value} {L : List El} (h : InW W lv L w) : Below W.heap.size W w := h.2.2
theorem InW.below {W w w' : World} {lv : Value} {L : List El} (h : InW W lv L w) (hb : Below w.heap.size w w') : InW W lv L w' := ⟨h.1.below hb, h.2.1.below hb h.2.1.lt, h.2.2.trans (hb.mono h.2.2.size)⟩
theorem ElsAt.cellsAt {w : World} {b off n cap : Nat} {L : List El} (h : ElsAt w (.slice (some ⟨b, off, none⟩) n cap) L) {k : Nat} {e : El} (he : L[k]? = some e) :
    w.cell? ⟨b, off + k * 8, none⟩ = some (.int .u8 e.kind) ∧ w.cell? ⟨b, off + k * 8 + 1, none⟩ = some (.string e.name) ∧ w.cell? ⟨b, off + k * 8 + 2, none⟩ = some (.string e.a) ∧ w.cell? ⟨b, off + k * 8 + 3, none⟩ = some (.string e.b) ∧ w.cell? ⟨b, off + k * 8 + 4, none⟩ = some (.string e.c) ∧ w.cell? ⟨b, off + k * 8 + 5, none⟩ = some (.string e.d) ∧ w.cell? ⟨b, off + k * 8 + 6, none⟩ = some (.float .f64 e.v) ∧ w.cell? ⟨b, off + k * 8 + 7, none⟩ = some (.int .i64 e.ph) := by
  obtain ⟨b', off', e1, _, r⟩ := h.at he
  cases e1
  exact r
theorem Inv_z (a b : Nat) (p : CV) (h : cv a b = p) (w : World) : Calls Tryd.prog 49 #[.complex .f64 a b] w (RetC w (cinv p)) := h ▸ Inv_any a b w
theorem Add_z (a b c d : Nat) (p q : CV) (h : cv a b = p) (h' : cv c d = q) (w : World) : Calls Tryd.prog 41 #[.complex .f64 a b, .complex .f64 c d] w (RetC w (cadd p q)) := h ▸ h' ▸ Add_any a b c d w
theorem Finite_y (a b : Nat) (z : CV) (h : cv a b = z) (w : World) : Calls Tryd.prog 50 #[.complex .f64 a b] w (RetB w (cfin z)) := h ▸ Finite_any a b w
set_option maxRecDepth 100000 in
set_option maxHeartbeats 8000000 in
theorem Input_any (S T : List El) (hs : ∀ e ∈ S, e.kind < 256 ∧ IsW e.v) (ht : ∀ e ∈ T, e.kind < 256 ∧ IsW e.v) (o : Nat) (vs vt : Value) (w : World) (hS : ElsAt w vs S) (hT : ElsAt w vt T) : Calls Tryd.prog 13 #[vs, vt, .float .f64 o] w (RetIn w (inF S T (val o))) := by
  obtain ⟨sa, sc, rfl⟩ := hS.form
  obtain ⟨ta, tc, rfl⟩ := hT.form
  have hF := FltAt.new w 0 0
  have hb0 : Below w.heap.size w (w.alloc (.cells #[.int .i64 0, .int .i64 0] 36)) := (Below.refl _ w).alloc (Nat.le_refl _) _
  have HIN : inF S T (val o) = if aboveE (val o) = 0 then (if (ladNetF S T).1 = (0, 0) then inN (ladN S T S.length) S.length (val o) S.length (val 0, val 0) else ((val 0, val 0), (ladNetF S T).1)) else ((val 0, val 0), (aboveE (val o), -1)) := rfl
  rcases aboveE_cases (val o) with ⟨g1, ha⟩ | ⟨g1, ⟨g2, ha⟩ | ⟨g2, ha⟩⟩
  · rw [ha, if_neg (by decide)] at HIN
    have HI := hid HIN
    clear HIN ha
    go_enter Tryd.func13, Tryd.ntmps13
    go_wp2_with (first | ((with_reducible refine upon_fadd ?_); intro r n hr hl) | ((with_reducible refine upon_fsub ?_); intro r n hr hl) | ((with_reducible refine upon_fmul ?_); intro r n hr hl) | ((with_reducible refine upon_fdiv ?_); intro r n hr hl) | ((with_reducible refine upon_fmax (by assumption) (by assumption) ?_); intro r n hr hl) | ((with_reducible refine upon_fmin (by assumption) (by assumption) ?_); intro r n hr hl))
    have hF1 : FltAt ((w.alloc (.cells #[.int .i64 0, .int .i64 0] 36)).drewN n) w.heap.size 0 0 := hF
    refine bodyPost_ret (results_flt rfl _ _ w.heap.size 5 (-1) rfl (hF1.set2 _ _)) rfl ?_
    exact RetIn.mk (x := 0) (y := 0) rfl (below_set2 (below_drewN' hb0 n) _ _ (Nat.le_refl _)) isW_0 isW_0 HI.out
  · rw [ha, if_neg (by decide)] at HIN
    have HI := hid HIN
    clear HIN ha
    go_enter Tryd.func13, Tryd.ntmps13
    go_wp2_with (first | ((with_reducible refine upon_fadd ?_); intro r n hr hl) | ((with_reducible refine upon_fsub ?_); intro r n hr hl) | ((with_reducible refine upon_fmul ?_); intro r n hr hl) | ((with_reducible refine upon_fdiv ?_); intro r n hr hl) | ((with_reducible refine upon_fmax (by assumption) (by assumption) ?_); intro r n hr hl) | ((with_reducible refine upon_fmin (by assumption) (by assumption) ?_); intro r n hr hl))
    have hF1 : FltAt ((w.alloc (.cells #[.int .i64 0, .int .i64 0] 36)).drewN n) w.heap.size 0 0 := hF
    refine bodyPost_ret (results_flt rfl _ _ w.heap.size 2 (-1) rfl (hF1.set2 _ _)) rfl ?_
    exact RetIn.mk (x := 0) (y := 0) rfl (below_set2 (below_drewN' hb0 n) _ _ (Nat.le_refl _)) isW_0 isW_0 HI.out
  · rw [ha, if_pos rfl] at HIN
    have HN := hid fun n => (LNet_any S T (fun e h => (hs e h).1) (fun e h => (ht e h).1) _ _ ((w.alloc (.cells #[.int .i64 0, .int .i64 0] 36)).drewN n) (hS.below (below_drewN' hb0 n)) (hT.below (below_drewN' hb0 n))).mono fun E w' h => h.weak
    obtain ⟨f1, f2, hf⟩ : ∃ f1 f2, (ladNetF S T).1 = (f1, f2) := ⟨_, _, rfl⟩
    rw [hf] at HN HIN
    by_cases hz : f1 = 0 ∧ f2 = 0
    · obtain ⟨rfl, rfl⟩ := hz
      rw [if_pos rfl] at HIN
      obtain ⟨hlen, hpos, hle⟩ := ladNetF_ok hf
      obtain ⟨L, hL⟩ : ∃ L, L = ladN S T S.length := ⟨_, rfl⟩
      have hLl : L.length = 2 * S.length := by rw [hL]; exact ladN_len S T _
      have hLk : ∀ e ∈ L, e.kind < 256 ∧ IsW e.v := by rw [hL]; exact ladN_good hs ht _
      rw [← hL] at HIN
      have HI := hid HIN
      have HE := hid fun (w3 : World) (h : Below w.heap.size w w3) => (elements_any S T _ _ w3 (hS.below h) (hT.below h) hlen.symm hle)
      rw [← hL, ← hlen] at HE
      rw [← hlen] at HN ⊢
      clear HIN ha hf hL hlen
      obtain ⟨N, hNn⟩ : ∃ N, N = S.length := ⟨_, rfl⟩
      rw [← hNn] at HN HE HI hle hpos hLl ⊢
      clear hNn hS hT
      go_enter Tryd.func13, Tryd.ntmps13
      go_wp2_with (first | (go_at_call 16; (with_reducible refine (HN.out _).mono ?_); rintro E1 w1 ⟨p, rfl, hb1⟩; have hF1 : FltAt w1 w.heap.size 0 0 := FltAt.below (w := (w.alloc (.cells #[.int .i64 0, .int .i64 0] 36)).drewN n) hF hb1 (by simp); have hbw : Below w.heap.size w w1 := (below_drewN' hb0 n).trans (hb1.mono (by simp)); have hbw2 := hbw.alloc hbw.size (.cells #[.int .i64 0, .int .i64 0] 36); have hF2 : FltAt (w1.alloc (.cells #[.int .i64 0, .int .i64 0] 36)) w.heap.size 0 0 := hF1.below ((Below.refl _ w1).alloc (Nat.le_refl _) _) hF1.lt) | (go_at_call 47; (with_reducible refine (HE.out _ hbw2).mono ?_); rintro E2 w3 ⟨lv, rfl, hown, hb3⟩; have hb3w := hbw2.trans (hb3.mono hbw2.size); have hF3 := hF2.below hb3 hF2.lt; have hE3 := ElsAt.of_owns hown) | ((with_reducible refine upon_fadd ?_); intro r n hr hl) | ((with_reducible refine upon_fsub ?_); intro r n hr hl) | ((with_reducible refine upon_fmul ?_); intro r n hr hl) | ((with_reducible refine upon_fdiv ?_); intro r n hr hl) | ((with_reducible refine upon_fmax (by assumption) (by assumption) ?_); intro r n hr hl) | ((with_reducible refine upon_fmin (by assumption) (by assumption) ?_); intro r n hr hl))
      obtain ⟨la, lc, rfl⟩ := hE3.form
      go_loopw [12, 11] (fun i z w' => InLoop w L N (val o) (.slice la L.length lc) (inF S T (val o)) i z w') (fun i _ _ => (intOf i + 1).toNat)
      case atStart => exact ⟨N, _, 0, 0, rfl, rfl, Nat.le_refl _, rfl, isW_0, isW_0, HI.out.symm, hE3, hF3, hb3w⟩
      case round =>
        obtain ⟨k, iv, x, y, rfl, hiv, hk, rfl, hx, hy, hin, hE, hFl, hbl⟩ := hrel
        have K : InW w (.slice la L.length lc) L wr := ⟨hE, hFl, hbl⟩
        clear hE3 hF3 hb3w hown hb3 hF2 hbw hbw2 hb1 hF1 HN HE HI hE hFl hbl hF hb0
        cases k with
        | zero =>
          have HI := hid hin
          obtain rfl : iv = -1 := by omega
          have d0 := K.2.1.c0
          have d1 := K.2.1.c1
          have d2 := K.2.1.fr 0
          have d3 := K.2.1.fr 1
          clear hin hiv
          go_wp2
          refine bodyPost_ret (results_flt rfl _ _ w.heap.size 0 0 rfl (K.2.1.set2 _ _)) rfl ?_
          exact RetIn.mk (x := x) (y := y) rfl (below_set2 K.2.2 _ _ (Nat.le_refl _)) hx hy HI.out.symm
        | succ j =>
          obtain rfl : iv = (j : Int) := by omega
          obtain ⟨s, hs1⟩ : ∃ s, L[2 * j]? = some s := ⟨L[2 * j]'(by omega), List.getElem?_eq_getElem (by omega)⟩
          obtain ⟨t, ht1⟩ : ∃ t, L[2 * j + 1]? = some t := ⟨L[2 * j + 1]'(by omega), List.getElem?_eq_getElem (by omega)⟩
          have hgs : L.getD (2 * j) el0 = s := by rw [List.getD_eq_getElem?_getD, hs1]; rfl
          have hgt : L.getD (2 * j + 1) el0 = t := by rw [List.getD_eq_getElem?_getD, ht1]; rfl
          have hin2 : (if (inStep N j s t (val o) (cv x y)).1 = 0 then inN L N (val o) j (inStep N j s t (val o) (cv x y)).2 else ((val 0, val 0), ((inStep N j s t (val o) (cv x y)).1, (j : Int)))) = inF S T (val o) := by rw [← hin, inN, hgs, hgt]
          obtain ⟨hsk, hsv⟩ := hLk s (List.mem_of_getElem? hs1)
          obtain ⟨htk, htv⟩ := hLk t (List.mem_of_getElem? ht1)
          have HA := hid (show ∀ w, Calls Tryd.prog 48 #[.agg #[.int .u8 t.kind, .string t.name, .string t.a, .string t.b, .string t.c, .string t.d, .float .f64 t.v, .int .i64 t.ph], .float .f64 o] w (RetCB w (recG true t (val o)) (recE true t (val o))) from fun w => AOf_any t htk htv o w)
          have HB := hid (show ∀ w, Calls Tryd.prog 51 #[.agg #[.int .u8 s.kind, .string s.name, .string s.a, .string s.b, .string s.c, .string s.d, .float .f64 s.v, .int .i64 s.ph], .float .f64 o] w (RetCB w (recG false s (val o)) (recE false s (val o))) from fun w => Impedance_any s hsk hsv o w)
          obtain ⟨b, off, rfl, -, a0, a1, a2, a3, a4, a5, a6, a7⟩ := K.1.at ht1
          have HS0 := hid hs1
          have hst : inStep N j s t (val o) (cv x y) = if recE true t (val o) = 0 then (if cfin (inY N j t (val o) (cv x y)) = true then (if recE false s (val o) = 0 then (if cfin (cadd (recG false s (val o)) (cinv (inY N j t (val o) (cv x y)))) = true then (0, cadd (recG false s (val o)) (cinv (inY N j t (val o) (cv x y)))) else (6, (val 0, val 0))) else (recE false s (val o), (val 0, val 0))) else (6, (val 0, val 0))) else (recE true t (val o), (val 0, val 0)) := rfl
          have hyy : inY N j t (val o) (cv x y) = if j + 1 < N then cadd (recG true t (val o)) (cinv (cv x y)) else recG true t (val o) := rfl
          have i1 : (2 * (j : Int) + 1) < (L.length : Int) := by omega
          have i2 : (2 * (j : Int)) < (L.length : Int) := by omega
          clear hs1 ht1 hgs hgt hin hiv hsk hsv htk htv hLk
          generalize recE true t (val o) = e0 at *
          generalize recE false s (val o) = e1 at *
          generalize recG true t (val o) = z0 at *
          generalize recG false s (val o) = z1 at *
          generalize inStep N j s t (val o) (cv x y) = st at *
          generalize inY N j t (val o) (cv x y) = yy at *
          have HLl := hid hLl
          clear hLl
          by_cases q0 : e0 = 0
          · subst q0
            rw [if_pos rfl] at hst
            by_cases q1 : j + 1 < N
            · rw [if_pos q1] at hyy
              subst hyy
              have i3 : (j : Int) < (N : Int) - 1 := by omega
              by_cases q2 : cfin (cadd z0 (cinv (cv x y))) = true
              · rw [if_pos q2] at hst
                by_cases q3 : e1 = 0
                · subst q3
                  rw [if_pos rfl] at hst
                  by_cases q4 : cfin (cadd z1 (cinv (cadd z0 (cinv (cv x y))))) = true
                  · rw [if_pos q4] at hst
                    subst hst
                    rw [if_pos rfl] at hin2
                    have HI := hid hin2
                    clear hin2
                    go_wp2_with (first | (go_at_call 48; (with_reducible refine (HA.out _).mono ?_); rintro E4 w4 ⟨x4, y4, rfl, hb4, hv4, hx4, hy4⟩; replace K := K.below hb4; clear a0 a1 a2 a3 a4 a5 a6 a7 hb4; obtain ⟨a0, a1, a2, a3, a4, a5, a6, a7⟩ := K.1.cellsAt HS0.out; have d0 := K.2.1.c0; have d1 := K.2.1.c1; have d2 := K.2.1.fr 0; have d3 := K.2.1.fr 1) | (go_at_call 51; (with_reducible refine (HB.out _).mono ?_); rintro E6 w6 ⟨x6, y6, rfl, hb6, hv6, hx6, hy6⟩; replace K := InW.below (by first | with_reducible exact K | with_reducible exact K.drewN _) hb6; clear a0 a1 a2 a3 a4 a5 a6 a7 hb6 d0 d1 d2 d3; have d0 := K.2.1.c0; have d1 := K.2.1.c1; have d2 := K.2.1.fr 0; have d3 := K.2.1.fr 1) | (go_at_call 49; (with_reducible refine (Inv_z _ _ _ (by first | assumption | rfl) _).mono ?_); rintro E5 w5 ⟨x5, y5, rfl, ⟨n5, rfl⟩, hv5, hx5, hy5⟩) | (go_at_call 41; (with_reducible refine (Add_z _ _ _ _ _ _ (by first | assumption | rfl) (by first | assumption | rfl) _).mono ?_); rintro E7 w7 ⟨x7, y7, rfl, ⟨n7, rfl⟩, hv7, hx7, hy7⟩) | (go_at_call 50; (with_reducible refine (Finite_y _ _ _ (by first | assumption | rfl) _).mono ?_); rintro E8 w8 ⟨rfl, n8, rfl⟩))
                    (go_roundw; (case rel => exact ⟨j, _, x7, y7, rfl, rfl, by omega, rfl, hx7, hy7, by rw [hv7]; exact HI.out, K.1, K.2.1, below_drewN' K.2.2 _⟩); (case measure => (simp [intOf] <;> omega)))
                  · rw [if_neg q4] at hst
                    subst hst
                    rw [if_neg (by decide)] at hin2
                    have HI := hid hin2
                    clear hin2
                    simp only [Bool.not_eq_true] at q4
                    go_wp2_with (first | (go_at_call 48; (with_reducible refine (HA.out _).mono ?_); rintro E4 w4 ⟨x4, y4, rfl, hb4, hv4, hx4, hy4⟩; replace K := K.below hb4; clear a0 a1 a2 a3 a4 a5 a6 a7 hb4; obtain ⟨a0, a1, a2, a3, a4, a5, a6, a7⟩ := K.1.cellsAt HS0.out; have d0 := K.2.1.c0; have d1 := K.2.1.c1; have d2 := K.2.1.fr 0; have d3 := K.2.1.fr 1) | (go_at_call 51; (with_reducible refine (HB.out _).mono ?_); rintro E6 w6 ⟨x6, y6, rfl, hb6, hv6, hx6, hy6⟩; replace K := InW.below (by first | with_reducible exact K | with_reducible exact K.drewN _) hb6; clear a0 a1 a2 a3 a4 a5 a6 a7 hb6 d0 d1 d2 d3; have d0 := K.2.1.c0; have d1 := K.2.1.c1; have d2 := K.2.1.fr 0; have d3 := K.2.1.fr 1) | (go_at_call 49; (with_reducible refine (Inv_z _ _ _ (by first | assumption | rfl) _).mono ?_); rintro E5 w5 ⟨x5, y5, rfl, ⟨n5, rfl⟩, hv5, hx5, hy5⟩) | (go_at_call 41; (with_reducible refine (Add_z _ _ _ _ _ _ (by first | assumption | rfl) (by first | assumption | rfl) _).mono ?_); rintro E7 w7 ⟨x7, y7, rfl, ⟨n7, rfl⟩, hv7, hx7, hy7⟩) | (go_at_call 50; (with_reducible refine (Finite_y _ _ _ (by first | assumption | rfl) _).mono ?_); rintro E8 w8 ⟨rfl, n8, rfl⟩))
                    (refine bodyPost_ret (results_flt rfl _ _ w.heap.size 6 j rfl (FltAt.set2 (InW.flt (W := w) (lv := .slice (some ⟨b, off, none⟩) L.length lc) (L := L) (by first | with_reducible exact K | with_reducible exact K.drewN _)) _ _)) rfl ?_; exact RetIn.mk (x := 0) (y := 0) rfl (below_set2 (InW.bl (W := w) (lv := .slice (some ⟨b, off, none⟩) L.length lc) (L := L) (by first | with_reducible exact K | with_reducible exact K.drewN _)) _ _ (Nat.le_refl _)) isW_0 isW_0 HI.out.symm)
                · rw [if_neg q3] at hst
                  subst hst
                  rw [if_neg q3] at hin2
                  have HI := hid hin2
                  clear hin2
                  go_wp2_with (first | (go_at_call 48; (with_reducible refine (HA.out _).mono ?_); rintro E4 w4 ⟨x4, y4, rfl, hb4, hv4, hx4, hy4⟩; replace K := K.below hb4; clear a0 a1 a2 a3 a4 a5 a6 a7 hb4; obtain ⟨a0, a1, a2, a3, a4, a5, a6, a7⟩ := K.1.cellsAt HS0.out; have d0 := K.2.1.c0; have d1 := K.2.1.c1; have d2 := K.2.1.fr 0; have d3 := K.2.1.fr 1) | (go_at_call 51; (with_reducible refine (HB.out _).mono ?_); rintro E6 w6 ⟨x6, y6, rfl, hb6, hv6, hx6, hy6⟩; replace K := InW.below (by first | with_reducible exact K | with_reducible exact K.drewN _) hb6; clear a0 a1 a2 a3 a4 a5 a6 a7 hb6 d0 d1 d2 d3; have d0 := K.2.1.c0; have d1 := K.2.1.c1; have d2 := K.2.1.fr 0; have d3 := K.2.1.fr 1) | (go_at_call 49; (with_reducible refine (Inv_z _ _ _ (by first | assumption | rfl) _).mono ?_); rintro E5 w5 ⟨x5, y5, rfl, ⟨n5, rfl⟩, hv5, hx5, hy5⟩) | (go_at_call 41; (with_reducible refine (Add_z _ _ _ _ _ _ (by first | assumption | rfl) (by first | assumption | rfl) _).mono ?_); rintro E7 w7 ⟨x7, y7, rfl, ⟨n7, rfl⟩, hv7, hx7, hy7⟩) | (go_at_call 50; (with_reducible refine (Finite_y _ _ _ (by first | assumption | rfl) _).mono ?_); rintro E8 w8 ⟨rfl, n8, rfl⟩))
                  (refine bodyPost_ret (results_flt rfl _ _ w.heap.size e1 j rfl (FltAt.set2 (InW.flt (W := w) (lv := .slice (some ⟨b, off, none⟩) L.length lc) (L := L) (by first | with_reducible exact K | with_reducible exact K.drewN _)) _ _)) rfl ?_; exact RetIn.mk (x := 0) (y := 0) rfl (below_set2 (InW.bl (W := w) (lv := .slice (some ⟨b, off, none⟩) L.length lc) (L := L) (by first | with_reducible exact K | with_reducible exact K.drewN _)) _ _ (Nat.le_refl _)) isW_0 isW_0 HI.out.symm)
              · rw [if_neg q2] at hst
                subst hst
                rw [if_neg (by decide)] at hin2
                have HI := hid hin2
                clear hin2
                simp only [Bool.not_eq_true] at q2
                go_wp2_with (first | (go_at_call 48; (with_reducible refine (HA.out _).mono ?_); rintro E4 w4 ⟨x4, y4, rfl, hb4, hv4, hx4, hy4⟩; replace K := K.below hb4; clear a0 a1 a2 a3 a4 a5 a6 a7 hb4; obtain ⟨a0, a1, a2, a3, a4, a5, a6, a7⟩ := K.1.cellsAt HS0.out; have d0 := K.2.1.c0; have d1 := K.2.1.c1; have d2 := K.2.1.fr 0; have d3 := K.2.1.fr 1) | (go_at_call 51; (with_reducible refine (HB.out _).mono ?_); rintro E6 w6 ⟨x6, y6, rfl, hb6, hv6, hx6, hy6⟩; replace K := InW.below (by first | with_reducible exact K | with_reducible exact K.drewN _) hb6; clear a0 a1 a2 a3 a4 a5 a6 a7 hb6 d0 d1 d2 d3; have d0 := K.2.1.c0; have d1 := K.2.1.c1; have d2 := K.2.1.fr 0; have d3 := K.2.1.fr 1) | (go_at_call 49; (with_reducible refine (Inv_z _ _ _ (by first | assumption | rfl) _).mono ?_); rintro E5 w5 ⟨x5, y5, rfl, ⟨n5, rfl⟩, hv5, hx5, hy5⟩) | (go_at_call 41; (with_reducible refine (Add_z _ _ _ _ _ _ (by first | assumption | rfl) (by first | assumption | rfl) _).mono ?_); rintro E7 w7 ⟨x7, y7, rfl, ⟨n7, rfl⟩, hv7, hx7, hy7⟩) | (go_at_call 50; (with_reducible refine (Finite_y _ _ _ (by first | assumption | rfl) _).mono ?_); rintro E8 w8 ⟨rfl, n8, rfl⟩))
                (refine bodyPost_ret (results_flt rfl _ _ w.heap.size 6 j rfl (FltAt.set2 (InW.flt (W := w) (lv := .slice (some ⟨b, off, none⟩) L.length lc) (L := L) (by first | with_reducible exact K | with_reducible exact K.drewN _)) _ _)) rfl ?_; exact RetIn.mk (x := 0) (y := 0) rfl (below_set2 (InW.bl (W := w) (lv := .slice (some ⟨b, off, none⟩) L.length lc) (L := L) (by first | with_reducible exact K | with_reducible exact K.drewN _)) _ _ (Nat.le_refl _)) isW_0 isW_0 HI.out.symm)
            · rw [if_neg q1] at hyy
              subst hyy
              have i3 : ¬ (j : Int) < (N : Int) - 1 := by omega
              by_cases q2 : cfin (yy) = true
              · rw [if_pos q2] at hst
                by_cases q3 : e1 = 0
                · subst q3
                  rw [if_pos rfl] at hst
                  by_cases q4 : cfin (cadd z1 (cinv (yy))) = true
                  · rw [if_pos q4] at hst
                    subst hst
                    rw [if_pos rfl] at hin2
                    have HI := hid hin2
                    clear hin2
                    go_wp2_with (first | (go_at_call 48; (with_reducible refine (HA.out _).mono ?_); rintro E4 w4 ⟨x4, y4, rfl, hb4, hv4, hx4, hy4⟩; replace K := K.below hb4; clear a0 a1 a2 a3 a4 a5 a6 a7 hb4; obtain ⟨a0, a1, a2, a3, a4, a5, a6, a7⟩ := K.1.cellsAt HS0.out; have d0 := K.2.1.c0; have d1 := K.2.1.c1; have d2 := K.2.1.fr 0; have d3 := K.2.1.fr 1) | (go_at_call 51; (with_reducible refine (HB.out _).mono ?_); rintro E6 w6 ⟨x6, y6, rfl, hb6, hv6, hx6, hy6⟩; replace K := InW.below (by first | with_reducible exact K | with_reducible exact K.drewN _) hb6; clear a0 a1 a2 a3 a4 a5 a6 a7 hb6 d0 d1 d2 d3; have d0 := K.2.1.c0; have d1 := K.2.1.c1; have d2 := K.2.1.fr 0; have d3 := K.2.1.fr 1) | (go_at_call 49; (with_reducible refine (Inv_z _ _ _ (by first | assumption | rfl) _).mono ?_); rintro E5 w5 ⟨x5, y5, rfl, ⟨n5, rfl⟩, hv5, hx5, hy5⟩) | (go_at_call 41; (with_reducible refine (Add_z _ _ _ _ _ _ (by first | assumption | rfl) (by first | assumption | rfl) _).mono ?_); rintro E7 w7 ⟨x7, y7, rfl, ⟨n7, rfl⟩, hv7, hx7, hy7⟩) | (go_at_call 50; (with_reducible refine (Finite_y _ _ _ (by first | assumption | rfl) _).mono ?_); rintro E8 w8 ⟨rfl, n8, rfl⟩))
                    (go_roundw; (case rel => exact ⟨j, _, x7, y7, rfl, rfl, by omega, rfl, hx7, hy7, by rw [hv7]; exact HI.out, K.1, K.2.1, below_drewN' K.2.2 _⟩); (case measure => (simp [intOf] <;> omega)))
                  · rw [if_neg q4] at hst
                    subst hst
                    rw [if_neg (by decide)] at hin2
                    have HI := hid hin2
                    clear hin2
                    simp only [Bool.not_eq_true] at q4
                    go_wp2_with (first | (go_at_call 48; (with_reducible refine (HA.out _).mono ?_); rintro E4 w4 ⟨x4, y4, rfl, hb4, hv4, hx4, hy4⟩; replace K := K.below hb4; clear a0 a1 a2 a3 a4 a5 a6 a7 hb4; obtain ⟨a0, a1, a2, a3, a4, a5, a6, a7⟩ := K.1.cellsAt HS0.out; have d0 := K.2.1.c0; have d1 := K.2.1.c1; have d2 := K.2.1.fr 0; have d3 := K.2.1.fr 1) | (go_at_call 51; (with_reducible refine (HB.out _).mono ?_); rintro E6 w6 ⟨x6, y6, rfl, hb6, hv6, hx6, hy6⟩; replace K := InW.below (by first | with_reducible exact K | with_reducible exact K.drewN _) hb6; clear a0 a1 a2 a3 a4 a5 a6 a7 hb6 d0 d1 d2 d3; have d0 := K.2.1.c0; have d1 := K.2.1.c1; have d2 := K.2.1.fr 0; have d3 := K.2.1.fr 1) | (go_at_call 49; (with_reducible refine (Inv_z _ _ _ (by first | assumption | rfl) _).mono ?_); rintro E5 w5 ⟨x5, y5, rfl, ⟨n5, rfl⟩, hv5, hx5, hy5⟩) | (go_at_call 41; (with_reducible refine (Add_z _ _ _ _ _ _ (by first | assumption | rfl) (by first | assumption | rfl) _).mono ?_); rintro E7 w7 ⟨x7, y7, rfl, ⟨n7, rfl⟩, hv7, hx7, hy7⟩) | (go_at_call 50; (with_reducible refine (Finite_y _ _ _ (by first | assumption | rfl) _).mono ?_); rintro E8 w8 ⟨rfl, n8, rfl⟩))
                    (refine bodyPost_ret (results_flt rfl _ _ w.heap.size 6 j rfl (FltAt.set2 (InW.flt (W := w) (lv := .slice (some ⟨b, off, none⟩) L.length lc) (L := L) (by first | with_reducible exact K | with_reducible exact K.drewN _)) _ _)) rfl ?_; exact RetIn.mk (x := 0) (y := 0) rfl (below_set2 (InW.bl (W := w) (lv := .slice (some ⟨b, off, none⟩) L.length lc) (L := L) (by first | with_reducible exact K | with_reducible exact K.drewN _)) _ _ (Nat.le_refl _)) isW_0 isW_0 HI.out.symm)
                · rw [if_neg q3] at hst
                  subst hst
                  rw [if_neg q3] at hin2
                  have HI := hid hin2
                  clear hin2
                  go_wp2_with (first | (go_at_call 48; (with_reducible refine (HA.out _).mono ?_); rintro E4 w4 ⟨x4, y4, rfl, hb4, hv4, hx4, hy4⟩; replace K := K.below hb4; clear a0 a1 a2 a3 a4 a5 a6 a7 hb4; obtain ⟨a0, a1, a2, a3, a4, a5, a6, a7⟩ := K.1.cellsAt HS0.out; have d0 := K.2.1.c0; have d1 := K.2.1.c1; have d2 := K.2.1.fr 0; have d3 := K.2.1.fr 1) | (go_at_call 51; (with_reducible refine (HB.out _).mono ?_); rintro E6 w6 ⟨x6, y6, rfl, hb6, hv6, hx6, hy6⟩; replace K := InW.below (by first | with_reducible exact K | with_reducible exact K.drewN _) hb6; clear a0 a1 a2 a3 a4 a5 a6 a7 hb6 d0 d1 d2 d3; have d0 := K.2.1.c0; have d1 := K.2.1.c1; have d2 := K.2.1.fr 0; have d3 := K.2.1.fr 1) | (go_at_call 49; (with_reducible refine (Inv_z _ _ _ (by first | assumption | rfl) _).mono ?_); rintro E5 w5 ⟨x5, y5, rfl, ⟨n5, rfl⟩, hv5, hx5, hy5⟩) | (go_at_call 41; (with_reducible refine (Add_z _ _ _ _ _ _ (by first | assumption | rfl) (by first | assumption | rfl) _).mono ?_); rintro E7 w7 ⟨x7, y7, rfl, ⟨n7, rfl⟩, hv7, hx7, hy7⟩) | (go_at_call 50; (with_reducible refine (Finite_y _ _ _ (by first | assumption | rfl) _).mono ?_); rintro E8 w8 ⟨rfl, n8, rfl⟩))
                  (refine bodyPost_ret (results_flt rfl _ _ w.heap.size e1 j rfl (FltAt.set2 (InW.flt (W := w) (lv := .slice (some ⟨b, off, none⟩) L.length lc) (L := L) (by first | with_reducible exact K | with_reducible exact K.drewN _)) _ _)) rfl ?_; exact RetIn.mk (x := 0) (y := 0) rfl (below_set2 (InW.bl (W := w) (lv := .slice (some ⟨b, off, none⟩) L.length lc) (L := L) (by first | with_reducible exact K | with_reducible exact K.drewN _)) _ _ (Nat.le_refl _)) isW_0 isW_0 HI.out.symm)
              · rw [if_neg q2] at hst
                subst hst
                rw [if_neg (by decide)] at hin2
                have HI := hid hin2
                clear hin2
                simp only [Bool.not_eq_true] at q2
                go_wp2_with (first | (go_at_call 48; (with_reducible refine (HA.out _).mono ?_); rintro E4 w4 ⟨x4, y4, rfl, hb4, hv4, hx4, hy4⟩; replace K := K.below hb4; clear a0 a1 a2 a3 a4 a5 a6 a7 hb4; obtain ⟨a0, a1, a2, a3, a4, a5, a6, a7⟩ := K.1.cellsAt HS0.out; have d0 := K.2.1.c0; have d1 := K.2.1.c1; have d2 := K.2.1.fr 0; have d3 := K.2.1.fr 1) | (go_at_call 51; (with_reducible refine (HB.out _).mono ?_); rintro E6 w6 ⟨x6, y6, rfl, hb6, hv6, hx6, hy6⟩; replace K := InW.below (by first | with_reducible exact K | with_reducible exact K.drewN _) hb6; clear a0 a1 a2 a3 a4 a5 a6 a7 hb6 d0 d1 d2 d3; have d0 := K.2.1.c0; have d1 := K.2.1.c1; have d2 := K.2.1.fr 0; have d3 := K.2.1.fr 1) | (go_at_call 49; (with_reducible refine (Inv_z _ _ _ (by first | assumption | rfl) _).mono ?_); rintro E5 w5 ⟨x5, y5, rfl, ⟨n5, rfl⟩, hv5, hx5, hy5⟩) | (go_at_call 41; (with_reducible refine (Add_z _ _ _ _ _ _ (by first | assumption | rfl) (by first | assumption | rfl) _).mono ?_); rintro E7 w7 ⟨x7, y7, rfl, ⟨n7, rfl⟩, hv7, hx7, hy7⟩) | (go_at_call 50; (with_reducible refine (Finite_y _ _ _ (by first | assumption | rfl) _).mono ?_); rintro E8 w8 ⟨rfl, n8, rfl⟩))
                (refine bodyPost_ret (results_flt rfl _ _ w.heap.size 6 j rfl (FltAt.set2 (InW.flt (W := w) (lv := .slice (some ⟨b, off, none⟩) L.length lc) (L := L) (by first | with_reducible exact K | with_reducible exact K.drewN _)) _ _)) rfl ?_; exact RetIn.mk (x := 0) (y := 0) rfl (below_set2 (InW.bl (W := w) (lv := .slice (some ⟨b, off, none⟩) L.length lc) (L := L) (by first | with_reducible exact K | with_reducible exact K.drewN _)) _ _ (Nat.le_refl _)) isW_0 isW_0 HI.out.symm)
          · rw [if_neg q0] at hst
            subst hst
            rw [if_neg q0] at hin2
            have HI := hid hin2
            clear hin2
            go_wp2_with (first | (go_at_call 48; (with_reducible refine (HA.out _).mono ?_); rintro E4 w4 ⟨x4, y4, rfl, hb4, hv4, hx4, hy4⟩; replace K := K.below hb4; clear a0 a1 a2 a3 a4 a5 a6 a7 hb4; obtain ⟨a0, a1, a2, a3, a4, a5, a6, a7⟩ := K.1.cellsAt HS0.out; have d0 := K.2.1.c0; have d1 := K.2.1.c1; have d2 := K.2.1.fr 0; have d3 := K.2.1.fr 1) | (go_at_call 51; (with_reducible refine (HB.out _).mono ?_); rintro E6 w6 ⟨x6, y6, rfl, hb6, hv6, hx6, hy6⟩; replace K := InW.below (by first | with_reducible exact K | with_reducible exact K.drewN _) hb6; clear a0 a1 a2 a3 a4 a5 a6 a7 hb6 d0 d1 d2 d3; have d0 := K.2.1.c0; have d1 := K.2.1.c1; have d2 := K.2.1.fr 0; have d3 := K.2.1.fr 1) | (go_at_call 49; (with_reducible refine (Inv_z _ _ _ (by first | assumption | rfl) _).mono ?_); rintro E5 w5 ⟨x5, y5, rfl, ⟨n5, rfl⟩, hv5, hx5, hy5⟩) | (go_at_call 41; (with_reducible refine (Add_z _ _ _ _ _ _ (by first | assumption | rfl) (by first | assumption | rfl) _).mono ?_); rintro E7 w7 ⟨x7, y7, rfl, ⟨n7, rfl⟩, hv7, hx7, hy7⟩) | (go_at_call 50; (with_reducible refine (Finite_y _ _ _ (by first | assumption | rfl) _).mono ?_); rintro E8 w8 ⟨rfl, n8, rfl⟩))
            (refine bodyPost_ret (results_flt rfl _ _ w.heap.size e0 j rfl (FltAt.set2 (InW.flt (W := w) (lv := .slice (some ⟨b, off, none⟩) L.length lc) (L := L) (by first | with_reducible exact K | with_reducible exact K.drewN _)) _ _)) rfl ?_; exact RetIn.mk (x := 0) (y := 0) rfl (below_set2 (InW.bl (W := w) (lv := .slice (some ⟨b, off, none⟩) L.length lc) (L := L) (by first | with_reducible exact K | with_reducible exact K.drewN _)) _ _ (Nat.le_refl _)) isW_0 isW_0 HI.out.symm)
    · have hne : ¬ ((f1, f2) : Int × Int) = (0, 0) := by
        intro h
        injection h with h1 h2
        exact hz ⟨h1, h2⟩
      rw [if_neg hne] at HIN
      have HI := hid HIN
      clear HIN ha hne hf
      have hz2 : (f1 = 0) = False ∨ (f1 = 0 ∧ (f2 = 0) = False) := by
        by_cases h : f1 = 0
        · exact .inr ⟨h, by simp; exact fun h2 => hz ⟨h, h2⟩⟩
        · exact .inl (by simp [h])
      clear hz
      rcases hz2 with hz1 | ⟨rfl, hz1⟩
      · go_enter Tryd.func13, Tryd.ntmps13
        go_wp2_with (first | (go_at_call 16; (with_reducible refine (HN.out _).mono ?_); rintro E1 w1 ⟨p, rfl, hb1⟩) | ((with_reducible refine upon_fadd ?_); intro r n hr hl) | ((with_reducible refine upon_fsub ?_); intro r n hr hl) | ((with_reducible refine upon_fmul ?_); intro r n hr hl) | ((with_reducible refine upon_fdiv ?_); intro r n hr hl) | ((with_reducible refine upon_fmax (by assumption) (by assumption) ?_); intro r n hr hl) | ((with_reducible refine upon_fmin (by assumption) (by assumption) ?_); intro r n hr hl))
        have hF1 : FltAt w1 w.heap.size 0 0 := FltAt.below (w := (w.alloc (.cells #[.int .i64 0, .int .i64 0] 36)).drewN n) hF hb1 (by simp)
        have hbw : Below w.heap.size w w1 := (below_drewN' hb0 n).trans (hb1.mono (by simp))
        obtain ⟨w2, hw2⟩ : ∃ w2, w2 = World.drew (w1.alloc (.cells #[.int .i64 f1, .int .i64 f2] 36)) := ⟨_, rfl⟩
        have hF9 : FltAt w2 w1.heap.size f1 f2 := by rw [hw2]; exact FltAt.new w1 f1 f2
        have hbn : Below w1.heap.size w1 w2 := by rw [hw2]; exact below_drewN' ((Below.refl _ w1).alloc (Nat.le_refl _) _) 1
        have hF2 := hF1.below hbn hF1.lt
        have hb2 := hbw.trans (hbn.mono hbw.size)
        have c0 := hF9.c0
        have c1 := hF9.c1
        have d0 := hF2.c0
        have d1 := hF2.c1
        have d2 := hF2.fr 0
        have d3 := hF2.fr 1
        (refine wp_region_still_tail 2 (by kernel_rfl) (by kernel_rfl) ?_; simp only [List.take_succ_cons, List.take_zero, List.drop_succ_cons, List.drop_zero]; change wpStill _ _ (World.drew (w1.alloc (.cells #[.int .i64 f1, .int .i64 f2] 36))) (fun a' => wpList _ _ _ _ a' (World.drew (w1.alloc (.cells #[.int .i64 f1, .int .i64 f2] 36)))) _ _; rw [← hw2]; clear hw2; (repeat still_step); (try refine wpStill_nil ?_))
        go_wp2
        refine bodyPost_ret (results_flt rfl _ _ w.heap.size f1 f2 rfl (hF2.set2 _ _)) rfl ?_
        exact RetIn.mk (x := 0) (y := 0) rfl (below_set2 hb2 _ _ (Nat.le_refl _)) isW_0 isW_0 HI.out
      · go_enter Tryd.func13, Tryd.ntmps13
        go_wp2_with (first | (go_at_call 16; (with_reducible refine (HN.out _).mono ?_); rintro E1 w1 ⟨p, rfl, hb1⟩) | ((with_reducible refine upon_fadd ?_); intro r n hr hl) | ((with_reducible refine upon_fsub ?_); intro r n hr hl) | ((with_reducible refine upon_fmul ?_); intro r n hr hl) | ((with_reducible refine upon_fdiv ?_); intro r n hr hl) | ((with_reducible refine upon_fmax (by assumption) (by assumption) ?_); intro r n hr hl) | ((with_reducible refine upon_fmin (by assumption) (by assumption) ?_); intro r n hr hl))
        have hF1 : FltAt w1 w.heap.size 0 0 := FltAt.below (w := (w.alloc (.cells #[.int .i64 0, .int .i64 0] 36)).drewN n) hF hb1 (by simp)
        have hbw : Below w.heap.size w w1 := (below_drewN' hb0 n).trans (hb1.mono (by simp))
        obtain ⟨w2, hw2⟩ : ∃ w2, w2 = World.drew (w1.alloc (.cells #[.int .i64 0, .int .i64 f2] 36)) := ⟨_, rfl⟩
        have hF9 : FltAt w2 w1.heap.size 0 f2 := by rw [hw2]; exact FltAt.new w1 0 f2
        have hbn : Below w1.heap.size w1 w2 := by rw [hw2]; exact below_drewN' ((Below.refl _ w1).alloc (Nat.le_refl _) _) 1
        have hF2 := hF1.below hbn hF1.lt
        have hb2 := hbw.trans (hbn.mono hbw.size)
        have c0 := hF9.c0
        have c1 := hF9.c1
        have d0 := hF2.c0
        have d1 := hF2.c1
        have d2 := hF2.fr 0
        have d3 := hF2.fr 1
        (refine wp_region_still_tail 2 (by kernel_rfl) (by kernel_rfl) ?_; simp only [List.take_succ_cons, List.take_zero, List.drop_succ_cons, List.drop_zero]; change wpStill _ _ (World.drew (w1.alloc (.cells #[.int .i64 0, .int .i64 f2] 36))) (fun a' => wpList _ _ _ _ a' (World.drew (w1.alloc (.cells #[.int .i64 0, .int .i64 f2] 36)))) _ _; rw [← hw2]; clear hw2; (repeat still_step); (try refine wpStill_nil ?_))
        go_wp2
        refine bodyPost_ret (results_flt rfl _ _ w.heap.size 0 f2 rfl (hF2.set2 _ _)) rfl ?_
        exact RetIn.mk (x := 0) (y := 0) rfl (below_set2 hb2 _ _ (Nat.le_refl _)) isW_0 isW_0 HI.out
end Go.Proofs.YtjpimgdmlieinaaDoor
