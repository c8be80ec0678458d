/- The board of stamp.Matrix: its state, plainly and in the world; add and sub. No condition. -/
import Derived.Test.YtgcakhmdmajplaaBaseM
import Derived.Deep.RegionWith
import Derived.Deep.RegionHeld3
import Derived.Deep.CutRange
namespace Go.Proofs.Ytgcakhmdmajplaa
open Go.RowKit Go.Maps

/-- The board, plainly. -/
structure Bd where
  z : Nat → CV
  over : Bool
def bdSet (S : Bd) (k : Nat) (v : CV) : Bd := ⟨fun j => if j = k then v else S.z j, S.over || !cfin v⟩
def bdAdd (sz : Nat) (S : Bd) (i j : Int) (y : CV) : Bd := if i < 0 ∨ j < 0 then S else bdSet S (i.toNat * sz + j.toNat) (cadd (S.z (i.toNat * sz + j.toNat)) y)
def bdSub (sz : Nat) (S : Bd) (i j : Int) (y : CV) : Bd := if i < 0 ∨ j < 0 then S else bdSet S (i.toNat * sz + j.toNat) (csub (S.z (i.toNat * sz + j.toNat)) y)
/-- The board in the world. -/
def BdAt (w : World) (b n nd sz : Nat) (ov : Bool) (zs : Nat → Z) : Prop := ∃ cs : Array Value, w.heap[b]? = some (.cells cs 71 (0, 0)) ∧ cs.size = 4100 ∧ cs[0]? = some (.pointer (some ⟨n, 0, none⟩)) ∧ cs[1]? = some (.int .i64 nd) ∧ cs[2]? = some (.int .i64 sz) ∧ cs[3]? = some (.bool ov) ∧ ∀ k, k < 4096 → cs[4 + k]? = some (C (zs k))
section
variable {w w' : World} {b n nd sz : Nat} {ov : Bool} {zs : Nat → Z}
theorem BdAt.lt (h : BdAt w b n nd sz ov zs) : b < w.heap.size := by
  obtain ⟨cs, h, _⟩ := h
  exact (Array.getElem?_eq_some_iff.1 h).1
theorem BdAt.drewN (h : BdAt w b n nd sz ov zs) (m : Nat) : BdAt (w.drewN m) b n nd sz ov zs := h
theorem BdAt.below (h : BdAt w b n nd sz ov zs) (hb : Below w.heap.size w w') : BdAt w' b n nd sz ov zs := by
  have hlt := h.lt
  obtain ⟨cs, h0, h1⟩ := h
  exact ⟨cs, (hb.block b hlt).trans h0, h1⟩
theorem BdAt.c0 (h : BdAt w b n nd sz ov zs) : w.cell? ⟨b, 0, none⟩ = some (.pointer (some ⟨n, 0, none⟩)) := by
  obtain ⟨cs, h0, _, h1, _⟩ := h
  simp [World.cell?, h0, h1]
theorem BdAt.c1 (h : BdAt w b n nd sz ov zs) : w.cell? ⟨b, 1, none⟩ = some (.int .i64 nd) := by
  obtain ⟨cs, h0, _, _, h1, _⟩ := h
  simp [World.cell?, h0, h1]
theorem BdAt.c2 (h : BdAt w b n nd sz ov zs) : w.cell? ⟨b, 2, none⟩ = some (.int .i64 sz) := by
  obtain ⟨cs, h0, _, _, _, h1, _⟩ := h
  simp [World.cell?, h0, h1]
theorem BdAt.c3 (h : BdAt w b n nd sz ov zs) : w.cell? ⟨b, 3, none⟩ = some (.bool ov) := by
  obtain ⟨cs, h0, _, _, _, _, h1, _⟩ := h
  simp [World.cell?, h0, h1]
theorem BdAt.cz (h : BdAt w b n nd sz ov zs) {k : Nat} (hk : k < 4096) : w.cell? ⟨b, 4 + k, none⟩ = some (.complex .f64 (zs k).1 (zs k).2) := by
  obtain ⟨cs, h0, _, _, _, _, _, h1⟩ := h
  have := h1 k hk
  simp [World.cell?, h0, this, C]
theorem BdAt.fr (h : BdAt w b n nd sz ov zs) (j : Nat) : w.frozen? ⟨b, j, none⟩ = false := by
  obtain ⟨cs, h0, _⟩ := h
  simp [World.frozen?, h0]
theorem BdAt.setZ (h : BdAt w b n nd sz ov zs) {k : Nat} (hk : k < 4096) (x y : Nat) : BdAt (w.setCell ⟨b, 4 + k, none⟩ (.complex .f64 x y)) b n nd sz ov (fun j => if j = k then (x, y) else zs j) := by
  obtain ⟨cs, h0, h1, h2, h3, h4, h5, h6⟩ := h
  refine ⟨cs.setIfInBounds (4 + k) (.complex .f64 x y), ?_, ?_, ?_, ?_, ?_, ?_, fun j hj => ?_⟩
  · simp [World.setCell, Array.getElem?_modify, h0]
  · simpa using h1
  · rw [Array.getElem?_setIfInBounds_ne (by omega)]; exact h2
  · rw [Array.getElem?_setIfInBounds_ne (by omega)]; exact h3
  · rw [Array.getElem?_setIfInBounds_ne (by omega)]; exact h4
  · rw [Array.getElem?_setIfInBounds_ne (by omega)]; exact h5
  · by_cases hjk : j = k
    · subst hjk
      rw [Array.getElem?_setIfInBounds_self_of_lt (by omega)]
      simp [C]
    · rw [Array.getElem?_setIfInBounds_ne (by omega)]
      simp only [if_neg hjk]
      exact h6 j hj
theorem BdAt.setO (h : BdAt w b n nd sz ov zs) (o : Bool) : BdAt (w.setCell ⟨b, 3, none⟩ (.bool o)) b n nd sz o zs := by
  obtain ⟨cs, h0, h1, h2, h3, h4, h5, h6⟩ := h
  refine ⟨cs.setIfInBounds 3 (.bool o), ?_, ?_, ?_, ?_, ?_, ?_, fun j hj => ?_⟩
  · simp [World.setCell, Array.getElem?_modify, h0]
  · simpa using h1
  · rw [Array.getElem?_setIfInBounds_ne (by omega)]; exact h2
  · rw [Array.getElem?_setIfInBounds_ne (by omega)]; exact h3
  · rw [Array.getElem?_setIfInBounds_ne (by omega)]; exact h4
  · rw [Array.getElem?_setIfInBounds_self_of_lt (by omega)]
  · rw [Array.getElem?_setIfInBounds_ne (by omega)]; exact h6 j hj
end
/-- The board reads as S. -/
def BdP (w : World) (b n nd sz : Nat) (S : Bd) : Prop := ∃ zs, BdAt w b n nd sz S.over zs ∧ ∀ k, zv (zs k) = S.z k
theorem BdP.below {w w' : World} {b n nd sz : Nat} {S : Bd} (h : BdP w b n nd sz S) (hb : Below w.heap.size w w') : BdP w' b n nd sz S := by
  obtain ⟨zs, h1, h2⟩ := h
  exact ⟨zs, h1.below hb, h2⟩
theorem BdP.lt {w : World} {b n nd sz : Nat} {S : Bd} (h : BdP w b n nd sz S) : b < w.heap.size := by
  obtain ⟨zs, h1, _⟩ := h
  exact h1.lt
theorem gr_refl (w : World) (r : Option Nat) : w.grownBy w r := ⟨rfl, rfl, rfl, Nat.le_refl _, fun _ _ _ => rfl⟩
theorem gr_drewN {w w' : World} {r : Option Nat} (h : w.grownBy w' r) (n : Nat) : w.grownBy (w'.drewN n) r := ⟨h.os, h.tape, h.output, h.size, h.block⟩
theorem gr_set {w w' : World} {b : Nat} (h : w.grownBy w' (some b)) (j : Nat) (v : Value) : w.grownBy (w'.setCell ⟨b, j, none⟩ v) (some b) := ⟨h.os, h.tape, h.output, by simp [World.setCell]; exact h.size, fun k hk hne => by
  rw [Below.heap_setCell _ _ _ _ (fun e => hne (by rw [e]))]
  exact h.block k hk hne⟩
theorem gr_trans {w w' w'' : World} {r : Option Nat} (h : w.grownBy w' r) (h2 : w'.grownBy w'' r) : w.grownBy w'' r := ⟨h2.os.trans h.os, h2.tape.trans h.tape, h2.output.trans h.output, Nat.le_trans h.size h2.size, fun k hk hne => (h2.block k (Nat.lt_of_lt_of_le hk h.size) hne).trans (h.block k hk hne)⟩
theorem gr_of {w w' : World} (r : Option Nat) (h : Below w.heap.size w w') : w.grownBy w' r := ⟨h.os, h.tape, h.output, h.size, fun k hk _ => h.block k hk⟩
theorem gr_below {w w' : World} {b B : Nat} (h : w.grownBy w' (some b)) (hb : B ≤ b) (hB : B ≤ w.heap.size) : Below B w w' := ⟨h.os, h.tape, h.output, h.size, fun k hk => h.block k (Nat.lt_of_lt_of_le hk hB) (fun e => by cases e; omega)⟩
theorem gr_cell {w w' : World} {b : Nat} (h : w.grownBy w' (some b)) {p : Addr} {v : Value} (hp : p.block ≠ b) (hc : w.cell? p = some v) : w'.cell? p = some v := by
  have h1 := h.block p.block (World.block_lt_of_cell? _ _ hc) (fun e => hp (Option.some.inj e))
  unfold World.cell? at hc ⊢
  rw [h1]
  exact hc
def RetBd (w : World) (b n nd sz : Nat) (S : Bd) (E : Ending) (w' : World) : Prop := E = .returned (.tuple #[]) ∧ BdP w' b n nd sz S ∧ w.grownBy w' (some b)
section
variable {w : World} {b n nd sz : Nat} {S : Bd}
theorem idx_lt {i j sz : Nat} (hi : i < sz) (hj : j < sz) (hs : sz ≤ 64) : i * sz + j < 4096 := by
  have h1 : (i + 1) * sz ≤ sz * sz := Nat.mul_le_mul_right sz (by omega)
  have h2 : sz * sz ≤ 64 * 64 := Nat.mul_le_mul hs hs
  rw [Nat.succ_mul] at h1
  omega
theorem bd_fin {w' : World} {k x y : Nat} {zs : Nat → Z} {o : Bool} {v : CV} (h : BdAt w' b n nd sz o (fun j => if j = k then (x, y) else zs j)) (hz : ∀ k, zv (zs k) = S.z k) (hv : cv x y = v) (ho : o = (S.over || !cfin v)) : BdP w' b n nd sz (bdSet S k v) := by
  refine ⟨_, by show BdAt _ b n nd sz (S.over || !cfin v) _; rw [← ho]; exact h, fun j => ?_⟩
  show zv (if j = k then (x, y) else zs j) = if j = k then v else S.z j
  split
  · exact hv
  · exact hz j
set_option maxRecDepth 100000 in
set_option maxHeartbeats 2000000 in
theorem bdAdd_any (H : BdP w b n nd sz S) (hs : sz ≤ 64) (i j : Int) (hi : i < sz) (hj : j < sz) (x y : Nat) :
    Calls Try.prog 69 #[.pointer (some ⟨b, 0, none⟩), .int .i64 i, .int .i64 j, .complex .f64 x y] w (RetBd w b n nd sz (bdAdd sz S i j (cv x y))) := by
  go_enter Try.func69, Try.ntmps69
  by_cases h1 : i < 0
  · go_wp2
    go_end0
    exact ⟨rfl, by rw [bdAdd, if_pos (.inl h1)]; exact H, gr_refl _ _⟩
  · by_cases h2 : j < 0
    · go_wp2
      go_end0
      exact ⟨rfl, by rw [bdAdd, if_pos (.inr h2)]; exact H, gr_refl _ _⟩
    · obtain ⟨p, rfl⟩ : ∃ p : Nat, i = p := ⟨i.toNat, by omega⟩
      obtain ⟨q, rfl⟩ : ∃ q : Nat, j = q := ⟨j.toNat, by omega⟩
      obtain ⟨zs, hB, hz⟩ := H
      have hk : p * sz + q < 4096 := idx_lt (by omega) (by omega) hs
      obtain ⟨k, hkk⟩ : ∃ k, k = p * sz + q := ⟨_, rfl⟩
      have c2 := hB.c2
      rw [bdAdd, if_neg (by omega)]
      simp only [Int.toNat_natCast]
      rw [← hkk] at hk ⊢
      obtain ⟨m, hm⟩ : ∃ m : Nat, p * sz = m := ⟨_, rfl⟩
      rw [hm] at hkk
      have hmi : (p : Int) * (sz : Int) = (m : Int) := by rw [← hm]; push_cast; rfl
      have hm64 : m < 4096 := by omega
      have hw1 : IntKind.i64.wrap (m : Int) = (m : Int) := IntWalk.i64_in _ (by omega)
      have hw2 : IntKind.i64.wrap ((m : Int) + (q : Int)) = (k : Int) := by rw [IntWalk.i64_in _ (by omega), hkk]; push_cast; rfl
      have hhi : (k : Int) < 4096 := by omega
      clear hkk hm
      go_upto_region 1 with (fail)
      go_region_with (fail)
      all_goals
        have c3 := hB.c3
        have ck := hB.cz hk
        have fk := hB.fr (4 + k)
        have f3 := hB.fr 3
        obtain ⟨o, hoe⟩ : ∃ o, o = S.over := ⟨_, rfl⟩
        rw [← hoe] at c3
        replace hoe := hid hoe
        have HA := hid (Add_any (zs k).1 (zs k).2 x y w.drew)
        have HF := hid fun a b w => Finite_any a b w
        have hzk := hid (hz k)
        cases o
        all_goals
          go_wp2_with (first
            | (go_at_call 64; (with_reducible refine HA.out.mono ?_); rintro E1 w1 ⟨x1, y1, rfl, ⟨n1, rfl⟩, hv1, -, -⟩)
            | (go_at_call 61; (with_reducible refine (HF.out _ _ _).mono ?_); rintro E2 w2 ⟨rfl, ⟨n2, rfl⟩⟩))
          go_end0
          have hv2 := hv1
          rw [show cv (zs k).fst (zs k).snd = S.z k from hzk.out] at hv2
        · exact ⟨rfl, bd_fin ((((hB.drewN (1 + n1)).setZ hk x1 y1).drewN n2).setO _) hz hv2 (by rw [← hoe.out, ← hv2, hv1]; rfl), gr_set (gr_drewN (gr_set (gr_drewN (gr_refl _ _) _) _ _) _) _ _⟩
        · exact ⟨rfl, bd_fin (((hB.drewN (1 + n1)).setZ hk x1 y1).setO _) hz hv2 (by rw [← hoe.out]; rfl), gr_set (gr_set (gr_drewN (gr_refl _ _) _) _ _) _ _⟩
set_option maxRecDepth 100000 in
set_option maxHeartbeats 2000000 in
theorem bdSub_any (H : BdP w b n nd sz S) (hs : sz ≤ 64) (i j : Int) (hi : i < sz) (hj : j < sz) (x y : Nat) :
    Calls Try.prog 70 #[.pointer (some ⟨b, 0, none⟩), .int .i64 i, .int .i64 j, .complex .f64 x y] w (RetBd w b n nd sz (bdSub sz S i j (cv x y))) := by
  go_enter Try.func70, Try.ntmps70
  by_cases h1 : i < 0
  · go_wp2
    go_end0
    exact ⟨rfl, by rw [bdSub, if_pos (.inl h1)]; exact H, gr_refl _ _⟩
  · by_cases h2 : j < 0
    · go_wp2
      go_end0
      exact ⟨rfl, by rw [bdSub, if_pos (.inr h2)]; exact H, gr_refl _ _⟩
    · obtain ⟨p, rfl⟩ : ∃ p : Nat, i = p := ⟨i.toNat, by omega⟩
      obtain ⟨q, rfl⟩ : ∃ q : Nat, j = q := ⟨j.toNat, by omega⟩
      obtain ⟨zs, hB, hz⟩ := H
      have hk : p * sz + q < 4096 := idx_lt (by omega) (by omega) hs
      obtain ⟨k, hkk⟩ : ∃ k, k = p * sz + q := ⟨_, rfl⟩
      have c2 := hB.c2
      rw [bdSub, if_neg (by omega)]
      simp only [Int.toNat_natCast]
      rw [← hkk] at hk ⊢
      obtain ⟨m, hm⟩ : ∃ m : Nat, p * sz = m := ⟨_, rfl⟩
      rw [hm] at hkk
      have hmi : (p : Int) * (sz : Int) = (m : Int) := by rw [← hm]; push_cast; rfl
      have hm64 : m < 4096 := by omega
      have hw1 : IntKind.i64.wrap (m : Int) = (m : Int) := IntWalk.i64_in _ (by omega)
      have hw2 : IntKind.i64.wrap ((m : Int) + (q : Int)) = (k : Int) := by rw [IntWalk.i64_in _ (by omega), hkk]; push_cast; rfl
      have hhi : (k : Int) < 4096 := by omega
      clear hkk hm
      go_upto_region 1 with (fail)
      go_region_with (fail)
      all_goals
        have c3 := hB.c3
        have ck := hB.cz hk
        have fk := hB.fr (4 + k)
        have f3 := hB.fr 3
        obtain ⟨o, hoe⟩ : ∃ o, o = S.over := ⟨_, rfl⟩
        rw [← hoe] at c3
        replace hoe := hid hoe
        have HA := hid (Sub_any (zs k).1 (zs k).2 x y w.drew)
        have HF := hid fun a b w => Finite_any a b w
        have hzk := hid (hz k)
        cases o
        all_goals
          go_wp2_with (first
            | (go_at_call 63; (with_reducible refine HA.out.mono ?_); rintro E1 w1 ⟨x1, y1, rfl, ⟨n1, rfl⟩, hv1, -, -⟩)
            | (go_at_call 61; (with_reducible refine (HF.out _ _ _).mono ?_); rintro E2 w2 ⟨rfl, ⟨n2, rfl⟩⟩))
          go_end0
          have hv2 := hv1
          rw [show cv (zs k).fst (zs k).snd = S.z k from hzk.out] at hv2
        · exact ⟨rfl, bd_fin ((((hB.drewN (1 + n1)).setZ hk x1 y1).drewN n2).setO _) hz hv2 (by rw [← hoe.out, ← hv2, hv1]; rfl), gr_set (gr_drewN (gr_set (gr_drewN (gr_refl _ _) _) _ _) _) _ _⟩
        · exact ⟨rfl, bd_fin (((hB.drewN (1 + n1)).setZ hk x1 y1).setO _) hz hv2 (by rw [← hoe.out]; rfl), gr_set (gr_set (gr_drewN (gr_refl _ _) _) _ _) _ _⟩
end
end Go.Proofs.Ytgcakhmdmajplaa

