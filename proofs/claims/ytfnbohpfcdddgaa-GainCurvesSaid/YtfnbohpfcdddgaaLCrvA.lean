/- GainCurves: what the loop makes, and what it is good for afterwards. No condition. -/
import Derived.Test.YtfnbohpfcdddgaaGCrv
import Derived.Test.YtfnbohpfcdddgaaGSol
namespace Go.Proofs.Ytfnbohpfcdddgaa
open Go.RowKit Go.Maps

/-- The solutions as they came in: bits. -/
def SeensAt (w : World) (v : Value) (ss : List Sol) : Prop := ∃ a cap, v = .slice a ss.length cap ∧ ∀ (k : Nat) (s : Sol), ss[k]? = some s → ∃ b off a1 c1 a2 c2, a = some ⟨b, off, none⟩ ∧ w.cell? ⟨b, off + k * 2, none⟩ = some (.slice a1 s.1.length c1) ∧ w.cell? ⟨b, off + k * 2 + 1, none⟩ = some (.slice a2 s.2.length c2) ∧ NsAt w (.slice a1 s.1.length c1) s.1 ∧ NsAt w (.slice a2 s.2.length c2) s.2
theorem SeensAt.below {w w' : World} {v : Value} {ss : List Sol} (h : SeensAt w v ss) (hb : Below w.heap.size w w') : SeensAt w' v ss := by
  obtain ⟨a, cap, rfl, hr⟩ := h
  refine ⟨a, cap, rfl, fun k s hs => ?_⟩
  obtain ⟨b, off, a1, c1, a2, c2, rfl, h1, h2, h3, h4⟩ := hr k s hs
  exact ⟨b, off, a1, c1, a2, c2, rfl, (hb.cell (World.block_lt_of_cell? _ _ h1)).trans h1, (hb.cell (World.block_lt_of_cell? _ _ h2)).trans h2, h3.below hb, h4.below hb⟩
def oneB : Nat := 4607182418800017408
def solC (p : Value × Value) : List Value := [.float .f64 4607182418800017408, p.1, p.2]
def arrC (p : Value × Value) : List Value := [p.1, p.2]
/-- What the first k rounds have made. -/
structure SvR (B : Nat) (ss : List Sol) (k : Nat) (sv ov fv : Nat → Value × Value) (ρ : Nat → Rw) (so ow fu : Value) (w : World) : Prop where
  rs : RS B ρ w
  r0 : ρ 0 = ⟨46, 3, so, k, (List.range k).flatMap fun j => solC (sv j)⟩
  r1 : ρ 1 = ⟨46, 3, ow, k, (List.range k).flatMap fun j => solC (ov j)⟩
  r2 : ρ 2 = ⟨47, 2, fu, k, (List.range k).flatMap fun j => arrC (fv j)⟩
  rn : ∀ j s, j < k → ss[j]? = some s → ρ (10 + 4 * j) = ⟨63, 1, (sv j).1, s.1.length, s.1.map C⟩ ∧ ρ (11 + 4 * j) = ⟨63, 1, (sv j).2, s.2.length, s.2.map C⟩ ∧ ρ (12 + 4 * j) = ⟨63, 1, (fv j).1, s.1.length + 6, (lent s.1).map C⟩ ∧ ρ (13 + 4 * j) = ⟨63, 1, (fv j).2, s.2.length + 6, (lent s.2).map C⟩ ∧ ∃ a c b d, fv j = (.slice a (s.1.length + 6) c, .slice b (s.2.length + 6) d) ∧ ov j = (.slice a s.1.length c, .slice b s.2.length d)
def SvLoop (W : World) (ss : List Sol) (i so ow fu : Value) (w : World) : Prop := ∃ (k : Nat) (sv ov fv : Nat → Value × Value) (ρ : Nat → Rw), i = .int .i64 k ∧ k ≤ ss.length ∧ SvR W.heap.size ss k sv ov fv ρ so ow fu w ∧ Below W.heap.size W w
theorem info_sol : (Try.prog.info? 46).map (fun i => (i.zero, i.size, i.bytes)) = some (some (.agg #[.float .f64 0, .slice none 0 0, .slice none 0 0]), 3, 56) := by kernel_rfl
theorem sol_z : (Value.agg #[.float .f64 0, .slice none 0 0, .slice none 0 0]).cells.size = 3 := by kernel_rfl
theorem arr_z : (Value.agg #[.slice none 0 0, .slice none 0 0]).cells.size = 2 := by kernel_rfl
theorem info_arr : (Try.prog.info? 47).map (fun i => (i.zero, i.size, i.bytes)) = some (some (.agg #[.slice none 0 0, .slice none 0 0]), 2, 48) := by kernel_rfl

theorem SvR.below {B : Nat} {ss : List Sol} {k : Nat} {sv ov fv : Nat → Value × Value} {ρ : Nat → Rw} {so ow fu : Value} {w w' : World} (h : SvR B ss k sv ov fv ρ so ow fu w) (hb : Below w.heap.size w w') : SvR B ss k sv ov fv ρ so ow fu w' := ⟨h.rs.below hb, h.r0, h.r1, h.r2, h.rn⟩
theorem solC_len (p : Value × Value) : (solC p).length = 3 := rfl
theorem arrC_len (p : Value × Value) : (arrC p).length = 2 := rfl
/-- A row of solutions, as a slice of them. -/
theorem sols_at {B : Nat} {ρ : Nat → Rw} {w : World} {ss : List Sol} (rs : RS B ρ w) {i : Nat} {v : Value} {f : Nat → Value × Value} (hr : ρ i = ⟨46, 3, v, ss.length, (List.range ss.length).flatMap fun j => solC (f j)⟩) (hf : ∀ k s, ss[k]? = some s → ∃ a1 c1 a2 c2, f k = (.slice a1 s.1.length c1, .slice a2 s.2.length c2) ∧ Sl w (.slice a1 s.1.length c1) (s.1.map C) ∧ Sl w (.slice a2 s.2.length c2) (s.2.map C)) : SolsAt w v ss := by
  by_cases h0 : 0 < ss.length
  · obtain ⟨g, cap, rfl⟩ := rs.form hr h0
    refine ⟨_, cap, rfl, fun k s hs => ?_⟩
    obtain ⟨a1, c1, a2, c2, hfk, s1, s2⟩ := hf k s hs
    have hk := (List.getElem?_eq_some_iff.1 hs).1
    refine ⟨g, 0, oneB, a1, c1, a2, c2, rfl, ?_, ?_, ?_, s1, s2⟩
    · rw [Nat.zero_add]
      refine rs.cell (j := k * 3) hr ?_
      have := flat_get (f := fun j => solC (f j)) (m := 3) (fun j => rfl) ss.length k 0 hk (by decide)
      rw [Nat.add_zero] at this
      rw [this]
      rfl
    · rw [Nat.zero_add]
      refine rs.cell (j := k * 3 + 1) hr ?_
      rw [flat_get (f := fun j => solC (f j)) (m := 3) (fun j => rfl) ss.length k 1 hk (by decide)]
      show some (f k).1 = _
      rw [hfk]
    · rw [Nat.zero_add]
      refine rs.cell (j := k * 3 + 2) hr ?_
      rw [flat_get (f := fun j => solC (f j)) (m := 3) (fun j => rfl) ss.length k 2 hk (by decide)]
      show some (f k).2 = _
      rw [hfk]
  · obtain ⟨a, c, rfl, -⟩ := own_cap (rs.at hr)
    refine ⟨a, c, rfl, fun k s hs => ?_⟩
    have := (List.getElem?_eq_some_iff.1 hs).1
    omega
section
variable {B : Nat} {ss : List Sol} {sv ov fv : Nat → Value × Value} {ρ : Nat → Rw} {so ow fu : Value} {w : World}
theorem SvR.sols (h : SvR B ss ss.length sv ov fv ρ so ow fu w) : SolsAt w so ss := by
  refine sols_at h.rs h.r0 fun k s hs => ?_
  have hk := (List.getElem?_eq_some_iff.1 hs).1
  obtain ⟨h1, h2, -, -, -⟩ := h.rn k s hk hs
  obtain ⟨a1, c1, e1, -⟩ := own_cap (h.rs.at h1)
  obtain ⟨a2, c2, e2, -⟩ := own_cap (h.rs.at h2)
  have s1 := Sl.of_owns (h.rs.at h1)
  have s2 := Sl.of_owns (h.rs.at h2)
  rw [e1] at s1
  rw [e2] at s2
  exact ⟨a1, c1, a2, c2, Prod.ext e1 e2, s1, s2⟩
theorem SvR.owns (h : SvR B ss ss.length sv ov fv ρ so ow fu w) : SolsAt w ow ss := by
  refine sols_at h.rs h.r1 fun k s hs => ?_
  have hk := (List.getElem?_eq_some_iff.1 hs).1
  obtain ⟨-, -, h3, h4, a, c, b, d, e1, e2⟩ := h.rn k s hk hs
  have s1 := Sl.of_owns (h.rs.at h3)
  have s2 := Sl.of_owns (h.rs.at h4)
  rw [e1] at s1 s2
  have t1 := s1.take (k := s.1.length) (by omega)
  have t2 := s2.take (k := s.2.length) (by omega)
  rw [← List.map_take, lent_take] at t1 t2
  exact ⟨a, c, b, d, e2, t1, t2⟩
/-- What the round x of the second loop reads. -/
theorem SvR.full (h : SvR B ss ss.length sv ov fv ρ so ow fu w) {x : Nat} {s : Sol} (hs : ss[x]? = some s) : ∃ fb fc sb sc f1 f2 v1 v2, fu = .slice (some ⟨fb, 0, none⟩) ss.length fc ∧ so = .slice (some ⟨sb, 0, none⟩) ss.length sc ∧ w.cell? ⟨fb, x * 2, none⟩ = some f1 ∧ w.cell? ⟨fb, x * 2 + 1, none⟩ = some f2 ∧ w.cell? ⟨sb, x * 3, none⟩ = some (.float .f64 4607182418800017408) ∧ w.cell? ⟨sb, x * 3 + 1, none⟩ = some v1 ∧ w.cell? ⟨sb, x * 3 + 2, none⟩ = some v2 ∧ Sl w f1 ((lent s.1).map C) ∧ Sl w f2 ((lent s.2).map C) ∧ Sl w v1 (s.1.map C) ∧ Sl w v2 (s.2.map C) := by
  have hk := (List.getElem?_eq_some_iff.1 hs).1
  obtain ⟨h1, h2, h3, h4, -⟩ := h.rn x s hk hs
  obtain ⟨sb, sc, rfl⟩ := h.rs.form h.r0 (by omega)
  obtain ⟨fb, fc, rfl⟩ := h.rs.form h.r2 (by omega)
  refine ⟨fb, fc, sb, sc, (fv x).1, (fv x).2, (sv x).1, (sv x).2, rfl, rfl, ?_, ?_, ?_, ?_, ?_, Sl.of_owns (h.rs.at h3), Sl.of_owns (h.rs.at h4), Sl.of_owns (h.rs.at h1), Sl.of_owns (h.rs.at h2)⟩
  · refine h.rs.cell (j := x * 2) h.r2 ?_
    have := flat_get (f := fun j => arrC (fv j)) (m := 2) (fun j => rfl) ss.length x 0 hk (by decide)
    rw [Nat.add_zero] at this
    rw [this]
    rfl
  · refine h.rs.cell (j := x * 2 + 1) h.r2 ?_
    rw [flat_get (f := fun j => arrC (fv j)) (m := 2) (fun j => rfl) ss.length x 1 hk (by decide)]
    rfl
  · refine h.rs.cell (j := x * 3) h.r0 ?_
    have := flat_get (f := fun j => solC (sv j)) (m := 3) (fun j => rfl) ss.length x 0 hk (by decide)
    rw [Nat.add_zero] at this
    rw [this]
    rfl
  · refine h.rs.cell (j := x * 3 + 1) h.r0 ?_
    rw [flat_get (f := fun j => solC (sv j)) (m := 3) (fun j => rfl) ss.length x 1 hk (by decide)]
    rfl
  · refine h.rs.cell (j := x * 3 + 2) h.r0 ?_
    rw [flat_get (f := fun j => solC (sv j)) (m := 3) (fun j => rfl) ss.length x 2 hk (by decide)]
    rfl
end
theorem cuF_len (nodes br : List ByteArray) (out inn : ByteArray) (ss : List Sol) : (cuF nodes br out inn ss).1.length ≤ ss.length := by
  unfold cuF
  split
  · simp
  · simp
theorem powF_len (l : List Z) : (powF l).1.length ≤ l.length := by
  unfold powF
  split
  · simp
  · split
    · simp
    · simp
/-- Two lists, side by side. -/
theorem two_start {B : Nat} {u v : Value} {p q : List Z} {w : World} (hu : w.ownsRow B 63 1 u p.length (p.map C)) (hv : w.ownsRow B 63 1 v q.length (q.map C)) (ha : ApV u v) (hB : B ≤ w.heap.size) (hp : p.length ≤ 100000) (hq : q.length ≤ 100000) :
    ∃ own, A1 B own (w.alloc (.cells #[u, v] 41)) (.slice (some ⟨w.heap.size, 0, none⟩) 2 2) [u, v] [p, q] (w.alloc (.cells #[u, v] 41)) := by
  refine ⟨fun b => if u.ownBlock = some b then 0 else if v.ownBlock = some b then 1 else 100, rfl, ⟨World.ownsRow_lit w _ 2 hB (by decide) rfl, fun b hb => ?_⟩, ?_, ?_, Below.refl _ _⟩
  · simp [Value.ownBlock] at hb
    subst hb
    simp only
    rw [if_neg (fun e => Nat.lt_irrefl _ (hu.lt _ e).2), if_neg (fun e => Nat.lt_irrefl _ (hv.lt _ e).2)]
  · intro j x r hx hr
    match j, hx, hr with
    | 0, hx, hr =>
      simp at hx hr
      subst hx hr
      refine ⟨hu.alloc _, fun b hb => ?_⟩
      simp only
      rw [if_pos hb]
    | 1, hx, hr =>
      simp at hx hr
      subst hx hr
      refine ⟨hv.alloc _, fun b hb => ?_⟩
      simp only
      rw [if_neg (fun e => ha b e hb), if_pos hb]
    | k + 2, hx, hr => simp at hx
  · intro j r hr
    match j, hr with
    | 0, hr => simp at hr; subst hr; exact hp
    | 1, hr => simp at hr; subst hr; exact hq
    | k + 2, hr => simp at hr
theorem two_calls {B : Nat} {u v : Value} {p q : List Z} {w : World} (hu : w.ownsRow B 63 1 u p.length (p.map C)) (hv : w.ownsRow B 63 1 v q.length (q.map C)) (ha : ApV u v) (hB : B ≤ w.heap.size) (hp : p.length ≤ 100000) (hq : q.length ≤ 100000) :
    Calls Try.prog 20 #[.slice (some ⟨w.heap.size, 0, none⟩) 2 2] (w.alloc (.cells #[u, v] 41)) fun e w' => e = .returned (.bool true) ∧ Below B w w' := by
  obtain ⟨own, HA⟩ := two_start hu hv ha hB hp hq
  refine (ApartNumbers_any B own _ _ _ _ (by simp) HA (by simp; omega)).mono ?_
  rintro e w' ⟨rfl, hb⟩
  exact ⟨rfl, ((Below.refl B w).alloc hB _).trans hb⟩
end Go.Proofs.Ytfnbohpfcdddgaa

