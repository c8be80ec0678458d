/- What lower.step does, plainly; what its state keeps. Condition: none. A region that draws its order: what only reckons or reads goes in the order of the text; stores that wait for every load stand behind it, in their own order. No condition. What lower tells of an eliminated matrix: is, Sign, Size, the two factors' entries. Condition: the matrix was made; the place lies in it. -/
import Derived.Test.YtgcakhmdmajplaaTlB
import Derived.Test.YtgcakhmdmajplaaTlA
import Derived.OrdersHeld
import Derived.StillTailTactics
namespace Go.Proofs.Ytgcakhmdmajplaa
open Go.RowKit

/-- An entry of a later row, eliminated. -/
def elE (M : Nat → Nat → CV) (k a b : Nat) : CV := csub (M a b) (cmul (cdiv (M a k) (M k k)) (M k b))
/-- The rows from k + 1 up to i are done, of the row i the columns from k + 1 up to j. -/
def midM (M : Nat → Nat → CV) (k i j a b : Nat) : CV := if a ≤ k then M a b else if a < i then (if b < k then M a b else if b = k then cdiv (M a k) (M k k) else elE M k a b) else if a = i ∧ k < b ∧ b < j then elE M k a b else M a b
/-- All that was stored is finite, of the rows from k + 1 up to i. -/
def FineO (M : Nat → Nat → CV) (n k i : Nat) : Prop := ∀ a, a < i → k < a → cfin (cdiv (M a k) (M k k)) = true ∧ ∀ b, b < n → k < b → cfin (elE M k a b) = true
instance (M : Nat → Nat → CV) (n k i : Nat) : Decidable (FineO M n k i) := by unfold FineO; infer_instance
def FineI (M : Nat → Nat → CV) (n k i j : Nat) : Prop := FineO M n k i ∧ cfin (cdiv (M i k) (M k k)) = true ∧ ∀ b, b < j → k < b → cfin (elE M k i b) = true
theorem FineO.start {M : Nat → Nat → CV} {n k : Nat} : FineO M n k (k + 1) := fun a h1 h2 => by omega
theorem FineI.start {M : Nat → Nat → CV} {n k i : Nat} : FineI M n k i (k + 1) ↔ FineO M n k i ∧ cfin (cdiv (M i k) (M k k)) = true := ⟨fun h => ⟨h.1, h.2.1⟩, fun h => ⟨h.1, h.2, fun b h1 h2 => by omega⟩⟩
theorem FineI.next {M : Nat → Nat → CV} {n k i j : Nat} (hk : k < j) : FineI M n k i (j + 1) ↔ FineI M n k i j ∧ cfin (elE M k i j) = true := by
  constructor
  · intro h
    exact ⟨⟨h.1, h.2.1, fun b h1 h2 => h.2.2 b (by omega) h2⟩, h.2.2 j (Nat.lt_succ_self j) hk⟩
  · intro h
    refine ⟨h.1.1, h.1.2.1, fun b h1 h2 => ?_⟩
    rcases Nat.lt_or_ge b j with h3 | h3
    · exact h.1.2.2 b h3 h2
    · obtain rfl : b = j := by omega
      exact h.2
theorem FineI.end {M : Nat → Nat → CV} {n k i : Nat} (hk : k < i) : FineI M n k i n ↔ FineO M n k (i + 1) := by
  constructor
  · intro h a h1 h2
    rcases Nat.lt_or_ge a i with h3 | h3
    · exact h.1 a h3 h2
    · obtain rfl : a = i := by omega
      exact h.2
  · intro h
    exact ⟨fun a h1 h2 => h a (by omega) h2, h i (Nat.lt_succ_self i) hk⟩
def colF (n : Nat) (M : Nat → Nat → CV) (k : Nat) : List CV := (List.range n).map fun i => M i k
def swapN (k p i : Nat) : Nat := if i = k then p else if i = p then k else i
theorem swapN_lt {k p n i : Nat} (hk : k < n) (hp : p < n) (hi : i < n) : swapN k p i < n := by
  unfold swapN
  split
  · exact hp
  · split
    · exact hk
    · exact hi
theorem swapN_self {k : Nat} : swapN k k = id := by
  funext i
  unfold swapN
  split
  · exact Eq.symm (by assumption)
  · rfl
theorem swapN_inj {k p i j : Nat} (h : swapN k p i = swapN k p j) : i = j := by
  unfold swapN at h
  repeat' split at h
  all_goals omega
/-- A step: what it tells, the matrix, the order, the sign behind it. -/
def stepF (n : Nat) (M : Nat → Nat → CV) (od : Nat → Nat) (sg : Int) (k : Nat) : Int × (Nat → Nat → CV) × (Nat → Nat) × Int :=
  let r := choF (colF n M k) k
  if r.2 ≠ 0 then (r.2, M, od, sg) else
    let p := r.1.toNat
    let M1 := fun i j => M (swapN k p i) j
    (if FineO M1 n k n then 0 else 6, midM M1 k n (k + 1), fun i => od (swapN k p i), if p = k then sg else -sg)
/-- What Choose picks lies from k on within the column. -/
theorem choG_pick (l : List CV) : ∀ (m i best : Nat) (z : Bool), best < l.length → i + m ≤ l.length → (choG l m i best z).2 = 0 → ∃ p : Nat, choG l m i best z = ((p : Int), 0) ∧ p < l.length
  | 0, _, best, z, hb, _, h => by
    unfold choG at h ⊢
    split at h
    · cases h
    · rename_i hz
      rw [if_neg hz]
      exact ⟨best, rfl, hb⟩
  | m + 1, i, best, z, hb, hm, h => by
    unfold choG at h ⊢
    split at h
    · rename_i hf
      rw [if_pos hf]
      refine choG_pick l m (i + 1) _ _ ?_ (by omega) h
      split
      · omega
      · exact hb
    · cases h
theorem choF_pick {l : List CV} {k : Nat} (hk : k < l.length) (h64 : l.length ≤ 64) (h : (choF l k).2 = 0) : ∃ p : Nat, choF l k = ((p : Int), 0) ∧ p < l.length := by
  unfold choF at h ⊢
  rw [if_neg (by omega), if_neg (by omega)] at h ⊢
  exact choG_pick l _ _ _ _ hk (by omega) h

/-- The rows hold this matrix. -/
def Ent (rs : Nat → List Z) (n : Nat) (M : Nat → Nat → CV) : Prop := ∀ i, i < n → ∀ j, j < n → ∃ z, (rs i)[j]? = some z ∧ zv z = M i j
theorem Ent.congr {rs : Nat → List Z} {n : Nat} {M M' : Nat → Nat → CV} (h : Ent rs n M) (e : ∀ i, i < n → ∀ j, j < n → M i j = M' i j) : Ent rs n M' := fun i hi j hj => by
  obtain ⟨z, h1, h2⟩ := h i hi j hj
  exact ⟨z, h1, h2.trans (e i hi j hj)⟩
theorem Ent.swap {rs : Nat → List Z} {n k p : Nat} {M : Nat → Nat → CV} (h : Ent rs n M) (hk : k < n) (hp : p < n) : Ent (fun i => rs (swapN k p i)) n (fun i j => M (swapN k p i) j) := fun _ hi j hj => h _ (swapN_lt hk hp hi) j hj
theorem Ent.set {rs : Nat → List Z} {n q t : Nat} {M : Nat → Nat → CV} (h : Ent rs n M) (z : Z) {M' : Nat → Nat → CV} (e : ∀ i, i < n → ∀ j, j < n → M' i j = if i = q ∧ j = t then zv z else M i j) : Ent (fun i => if i = q then (rs i).set t z else rs i) n M' := fun i hi j hj => by
  obtain ⟨y, h1, h2⟩ := h i hi j hj
  have hj2 := (List.getElem?_eq_some_iff.1 h1).1
  rw [e i hi j hj]
  by_cases hiq : i = q
  · subst hiq
    simp only [if_true, true_and]
    by_cases hjt : j = t
    · subst hjt
      exact ⟨z, by rw [List.getElem?_set_self hj2], by simp⟩
    · refine ⟨y, ?_, by rw [if_neg hjt]; exact h2⟩
      rw [List.getElem?_set_ne (Ne.symm hjt)]
      exact h1
  · simp only [hiq, if_false, false_and]
    exact ⟨y, h1, h2⟩
theorem mid_next {M : Nat → Nat → CV} {k i t : Nat} (hk : k < i) (ht : k < t) (a b : Nat) : midM M k i (t + 1) a b = if a = i ∧ b = t then elE M k i t else midM M k i t a b := by
  unfold midM
  by_cases h1 : a = i ∧ b = t
  · obtain ⟨rfl, rfl⟩ := h1
    rw [if_neg (by omega), if_neg (by omega), if_pos (by omega), if_pos (by omega)]
  · rw [if_neg h1]
    by_cases h2 : a ≤ k
    · rw [if_pos h2, if_pos h2]
    · rw [if_neg h2, if_neg h2]
      by_cases h3 : a < i
      · rw [if_pos h3, if_pos h3]
      · rw [if_neg h3, if_neg h3]
        by_cases h4 : a = i ∧ k < b ∧ b < t
        · rw [if_pos h4, if_pos (by omega)]
        · rw [if_neg h4, if_neg (by omega)]
theorem mid_end {M : Nat → Nat → CV} {n k i : Nat} (hk : k < i) (a b : Nat) (hb : b < n) : midM M k (i + 1) (k + 1) a b = if a = i ∧ b = k then cdiv (M i k) (M k k) else midM M k i n a b := by
  unfold midM
  by_cases h1 : a = i ∧ b = k
  · obtain ⟨rfl, rfl⟩ := h1
    rw [if_neg (by omega), if_pos (by omega), if_neg (by omega), if_pos rfl, if_pos (by omega)]
  · rw [if_neg h1]
    by_cases h2 : a ≤ k
    · rw [if_pos h2, if_pos h2]
    · rw [if_neg h2, if_neg h2]
      by_cases h3 : a < i
      · rw [if_pos h3, if_pos (by omega)]
      · rw [if_neg h3]
        by_cases h4 : a = i
        · subst h4
          rw [if_pos (by omega)]
          by_cases h5 : b < k
          · rw [if_pos h5, if_neg (by omega)]
          · rw [if_neg h5, if_neg (by omega), if_pos (by omega)]
        · rw [if_neg (by omega), if_neg (by omega), if_neg (by omega)]
theorem mid_start {M : Nat → Nat → CV} {k : Nat} (a b : Nat) : midM M k (k + 1) (k + 1) a b = M a b := by
  unfold midM
  split
  · rfl
  · rw [if_neg (by omega), if_neg (by omega)]
/-- What the walk reads in the round (i, t). -/
theorem mid_row {M : Nat → Nat → CV} {k i t b : Nat} : midM M k i t k b = M k b := by
  unfold midM
  rw [if_pos (Nat.le_refl k)]
theorem mid_at {M : Nat → Nat → CV} {k i t : Nat} (hi : k < i) : midM M k i t i t = M i t := by
  unfold midM
  rw [if_neg (by omega), if_neg (by omega), if_neg (by omega)]
theorem mid_col {M : Nat → Nat → CV} {k i t : Nat} (hi : k < i) : midM M k i t i k = M i k := by
  unfold midM
  rw [if_neg (by omega), if_neg (by omega), if_neg (by omega)]

theorem RS.reindex {B : Nat} {ρ : Nat → Rw} {w : World} (h : RS B ρ w) (σ : Nat → Nat) (hσ : ∀ i j, σ i = σ j → i = j) : RS B (fun i => ρ (σ i)) w := ⟨fun i => h.own (σ i), fun i j hij => h.ap (σ i) (σ j) fun e => hij (hσ i j e)⟩
/-- The state, its rows written out. -/
abbrev LoS (B : Nat) (ρ : Nat → Rw) (w : World) (lb n gr cr go co : Nat) (sg : Int) (gb cb : Nat → Nat) (od : Nat → Nat) (rs : Nat → List Z) : Prop := LoR B ρ w lb n (.slice (some ⟨gr, 0, none⟩) n cr) (.slice (some ⟨go, 0, none⟩) n co) sg (fun i => .slice (some ⟨gb i, 0, none⟩) n (cb i)) od rs id n
theorem LoR.form {B : Nat} {ρ : Nat → Rw} {w : World} {lb n : Nat} {rv ov : Value} {sg : Int} {rw : Nat → Value} {od : Nat → Nat} {rs : Nat → List Z} (h : LoR B ρ w lb n rv ov sg rw od rs id n) (hn : 0 < n) : ∃ gr cr go co gb cb, LoS B ρ w lb n gr cr go co sg gb cb od rs := by
  obtain ⟨gr, cr, rfl⟩ := h.own.form h.rows hn
  obtain ⟨go, co, rfl⟩ := h.own.form h.order hn
  have hf : ∀ i, ∃ x : Nat × Nat, i < n → rw i = .slice (some ⟨x.1, 0, none⟩) n x.2 := by
    intro i
    by_cases hi : i < n
    · obtain ⟨g, c, e⟩ := h.own.form (h.row i hi) hn
      exact ⟨(g, c), fun _ => e⟩
    · exact ⟨(0, 0), fun h => absurd h hi⟩
  refine ⟨gr, cr, go, co, fun i => (Classical.choose (hf i)).1, fun i => (Classical.choose (hf i)).2, h.own, h.st, ?_, h.order, fun i hi => ?_⟩
  · rw [h.rows]
    congr 1
    exact List.map_congr_left fun j hj => Classical.choose_spec (hf j) (List.mem_range.1 hj)
  · rw [h.row i hi, Classical.choose_spec (hf i) hi]
section
variable {B : Nat} {ρ : Nat → Rw} {w : World} {lb n gr cr go co : Nat} {sg : Int} {gb cb od : Nat → Nat} {rs : Nat → List Z}
theorem LoS.c1 (h : LoS B ρ w lb n gr cr go co sg gb cb od rs) : w.cell? ⟨lb, 1, none⟩ = some (.slice (some ⟨gr, 0, none⟩) n cr) := h.own.cell h.st (j := 1) rfl
theorem LoS.c2 (h : LoS B ρ w lb n gr cr go co sg gb cb od rs) : w.cell? ⟨lb, 2, none⟩ = some (.slice (some ⟨go, 0, none⟩) n co) := h.own.cell h.st (j := 2) rfl
theorem LoS.c3 (h : LoS B ρ w lb n gr cr go co sg gb cb od rs) : w.cell? ⟨lb, 3, none⟩ = some (.int .i64 sg) := h.own.cell h.st (j := 3) rfl
theorem LoS.f3 (h : LoS B ρ w lb n gr cr go co sg gb cb od rs) : w.frozen? ⟨lb, 3, none⟩ = false := h.own.fr h.st 3
theorem LoS.rc (h : LoS B ρ w lb n gr cr go co sg gb cb od rs) {q : Nat} (hq : q < n) : w.cell? ⟨gr, q, none⟩ = some (.slice (some ⟨gb q, 0, none⟩) n (cb q)) := h.own.cell h.rows (by simp [hq])
theorem LoS.rf (h : LoS B ρ w lb n gr cr go co sg gb cb od rs) (q : Nat) : w.frozen? ⟨gr, q, none⟩ = false := h.own.fr h.rows q
theorem LoS.oc (h : LoS B ρ w lb n gr cr go co sg gb cb od rs) {q : Nat} (hq : q < n) : w.cell? ⟨go, q, none⟩ = some (.int .i64 (od q : Int)) := h.own.cell h.order (by simp [hq])
theorem LoS.of (h : LoS B ρ w lb n gr cr go co sg gb cb od rs) (q : Nat) : w.frozen? ⟨go, q, none⟩ = false := h.own.fr h.order q
theorem LoS.ec (h : LoS B ρ w lb n gr cr go co sg gb cb od rs) {q j : Nat} {z : Z} (hq : q < n) (hz : (rs q)[j]? = some z) : w.cell? ⟨gb q, j, none⟩ = some (.complex .f64 z.1 z.2) := h.own.cell (h.row q hq) (by rw [List.getElem?_map, hz]; rfl)
theorem LoS.ef (h : LoS B ρ w lb n gr cr go co sg gb cb od rs) {q : Nat} (hq : q < n) (j : Nat) : w.frozen? ⟨gb q, j, none⟩ = false := h.own.fr (h.row q hq) j
theorem LoS.drewN (h : LoS B ρ w lb n gr cr go co sg gb cb od rs) (m : Nat) : LoS B ρ (w.drewN m) lb n gr cr go co sg gb cb od rs := ⟨h.own.drewN m, h.st, h.rows, h.order, h.row⟩
theorem LoS.drew (h : LoS B ρ w lb n gr cr go co sg gb cb od rs) : LoS B ρ w.drew lb n gr cr go co sg gb cb od rs := ⟨h.own.drew, h.st, h.rows, h.order, h.row⟩
theorem LoS.below (h : LoS B ρ w lb n gr cr go co sg gb cb od rs) {w' : World} (hb : Below w.heap.size w w') : LoS B ρ w' lb n gr cr go co sg gb cb od rs := ⟨h.own.below hb, h.st, h.rows, h.order, h.row⟩
theorem LoS.le (h : LoS B ρ w lb n gr cr go co sg gb cb od rs) : B ≤ gr ∧ B ≤ go ∧ B ≤ lb := ⟨((h.own.at h.rows).lt gr rfl).1, ((h.own.at h.order).lt go rfl).1, ((h.own.at h.st).lt lb rfl).1⟩
theorem LoS.ne (h : LoS B ρ w lb n gr cr go co sg gb cb od rs) : gr ≠ go ∧ gr ≠ lb ∧ go ≠ lb := by
  have a1 := h.own.ap 0 1 (by decide)
  have a2 := h.own.ap 0 2 (by decide)
  have a3 := h.own.ap 1 2 (by decide)
  rw [h.rows, h.order] at a1
  rw [h.rows, h.st] at a2
  rw [h.order, h.st] at a3
  refine ⟨?_, ?_, ?_⟩
  · intro e
    rcases a1 with a | a
    · cases a
    · exact a (by rw [e]; rfl)
  · intro e
    rcases a2 with a | a
    · cases a
    · exact a (by rw [e]; rfl)
  · intro e
    rcases a3 with a | a
    · cases a
    · exact a (by rw [e]; rfl)
/-- Another row besides (the indices 4 to 9 are free). -/
theorem LoS.row4 (h : LoS B ρ w lb n gr cr go co sg gb cb od rs) {r : Rw} {w' : World} (R : RS B (upd ρ 4 r) w') : LoS B (upd ρ 4 r) w' lb n gr cr go co sg gb cb od rs :=
  ⟨R, (upd_ne _ _ (by decide)).trans h.st, (upd_ne _ _ (by decide)).trans h.rows, (upd_ne _ _ (by decide)).trans h.order, fun i hi => (upd_ne _ _ (by omega)).trans (h.row i hi)⟩
/-- An entry is stored. -/
theorem LoS.setE (h : LoS B ρ w lb n gr cr go co sg gb cb od rs) {q : Nat} (hq : q < n) (t : Nat) (z : Z) : ∃ ρ', LoS B ρ' (w.setCell ⟨gb q, t, none⟩ (.complex .f64 z.1 z.2)) lb n gr cr go co sg gb cb od (fun i => if i = q then (rs i).set t z else rs i) := by
  refine ⟨_, h.own.store (h.row q hq) t (.complex .f64 z.1 z.2), (upd_ne _ _ (by omega)).trans h.st, (upd_ne _ _ (by omega)).trans h.rows, (upd_ne _ _ (by omega)).trans h.order, fun i hi => ?_⟩
  by_cases hiq : i = q
  · subst hiq
    rw [upd_same]
    simp only [if_true, List.map_set]
    rfl
  · rw [upd_ne _ _ (by omega), h.row i hi, if_neg hiq]
theorem set_swap {α : Type} (f : Nat → α) {n k p : Nat} (hk : k < n) (hp : p < n) : (((List.range n).map f).set k (f p)).set p (f k) = (List.range n).map fun j => f (swapN k p j) := by
  refine List.ext_getElem? fun j => ?_
  rcases Nat.lt_or_ge j n with hj | hj
  · rw [List.getElem?_map, List.getElem?_range hj]
    unfold swapN
    by_cases h1 : j = p
    · subst h1
      rw [List.getElem?_set_self (by simp; omega)]
      by_cases h2 : j = k
      · subst h2
        simp
      · simp [h2]
    · rw [List.getElem?_set_ne (Ne.symm h1)]
      by_cases h2 : j = k
      · subst h2
        rw [List.getElem?_set_self (by simp; omega)]
        simp
      · rw [List.getElem?_set_ne (Ne.symm h2), List.getElem?_map, List.getElem?_range hj]
        simp [h1, h2]
  · rw [List.getElem?_eq_none (by simp; omega), List.getElem?_eq_none (by simp; omega)]
/-- Two rows change places. -/
theorem LoS.swap (h : LoS B ρ w lb n gr cr go co sg gb cb od rs) {k p : Nat} (hk : k < n) (hp : p < n) (s : Int) : ∃ ρ', LoS B ρ' (((((w.setCell ⟨gr, k, none⟩ (.slice (some ⟨gb p, 0, none⟩) n (cb p))).setCell ⟨gr, p, none⟩ (.slice (some ⟨gb k, 0, none⟩) n (cb k))).setCell ⟨go, k, none⟩ (.int .i64 (od p : Int))).setCell ⟨go, p, none⟩ (.int .i64 (od k : Int))).setCell ⟨lb, 3, none⟩ (.int .i64 s)) lb n gr cr go co s (fun i => gb (swapN k p i)) (fun i => cb (swapN k p i)) (fun i => od (swapN k p i)) (fun i => rs (swapN k p i)) := by
  have R1 := h.own.store h.rows k (.slice (some ⟨gb p, 0, none⟩) n (cb p))
  have R2 := R1.store (upd_same _ _ _) p (.slice (some ⟨gb k, 0, none⟩) n (cb k))
  have R3 := R2.store ((upd_ne _ _ (show 1 ≠ 0 by decide)).trans ((upd_ne _ _ (show 1 ≠ 0 by decide)).trans h.order)) k (.int .i64 (od p : Int))
  have R4 := R3.store (upd_same _ _ _) p (.int .i64 (od k : Int))
  have R5 := R4.store ((upd_ne _ _ (show 2 ≠ 1 by decide)).trans ((upd_ne _ _ (show 2 ≠ 1 by decide)).trans ((upd_ne _ _ (show 2 ≠ 0 by decide)).trans ((upd_ne _ _ (show 2 ≠ 0 by decide)).trans h.st)))) 3 (.int .i64 s)
  have R6 := R5.reindex (fun i => if i < 10 then i else 10 + swapN k p (i - 10)) (fun i j e => by
    split at e <;> split at e
    · exact e
    · omega
    · omega
    · have := swapN_inj (show swapN k p (i - 10) = swapN k p (j - 10) by omega)
      omega)
  refine ⟨_, R6, upd_same _ _ _, ?_, ?_, fun i hi => ?_⟩
  · show upd _ 2 _ 0 = _
    rw [upd_ne _ _ (by decide), upd_ne _ _ (by decide), upd_ne _ _ (by decide), upd_same]
    congr 1
    exact set_swap (fun j => Value.slice (some ⟨gb j, 0, none⟩) n (cb j)) hk hp
  · show upd _ 2 _ 1 = _
    rw [upd_ne _ _ (by decide), upd_same]
    congr 1
    exact set_swap (fun j => Value.int .i64 (od j : Int)) hk hp
  · have e1 : ¬ 10 + i < 10 := by omega
    have e2 : 10 + i - 10 = i := by omega
    have hs := swapN_lt hk hp hi
    show upd _ 2 _ (if 10 + i < 10 then 10 + i else 10 + swapN k p (10 + i - 10)) = _
    rw [if_neg e1, e2, upd_ne _ _ (by omega), upd_ne _ _ (by omega), upd_ne _ _ (by omega), upd_ne _ _ (by omega), upd_ne _ _ (by omega), h.row _ hs]
end
/-- The column, made. -/
theorem own_col (n : Nat) (hn : n ≤ 64) (w : World) : (w.alloc (.cells (Array.replicate n (Value.complex .f64 0 0)) 44)).ownsRow w.heap.size 44 1 (.slice (some ⟨w.heap.size, 0, none⟩) n n) n ((List.replicate n ((0, 0) : Z)).map C) := by
  refine ⟨by simp, .inr ⟨w.heap.size, n, ((List.replicate n ((0, 0) : Z)).map C).toArray, rfl, Nat.le_refl _, ?_, Nat.le_refl _, by simp only [maxLen]; omega, by simp, ?_⟩⟩
  · rw [List.map_replicate, ← List.toArray_replicate]
    exact blk_new _ _
  · exact List.take_of_length_le (by simp)
end Go.Proofs.Ytgcakhmdmajplaa

namespace Go.Proofs.Ytgcakhmdmajplaa
open Go.RowKit
section
variable {P : Program} {ops : Array Oper} {md : Region.Mode} {Q : Exit → Act → World → Prop} {n : Nat} {w0 : World}
/-- Nothing but draws. -/
def Drw (w w' : World) : Prop := ∃ d, w' = w.drewN d
theorem Drw.self (w : World) : Drw w w := ⟨0, rfl⟩
theorem Drw.trans {a b c : World} (h : Drw a b) (h2 : Drw b c) : Drw a c := by
  obtain ⟨d, rfl⟩ := h
  obtain ⟨e, rfl⟩ := h2
  exact ⟨d + e, by rw [World.drewN_drewN]⟩
/-- What the operations ahead of the stores may do to the world. -/
structure RelOk (R : World → World → Prop) : Prop where
  self : ∀ w, R w w
  trans : ∀ {a b c}, R a b → R b c → R a c
theorem drw_ok : RelOk Drw := ⟨Drw.self, Drw.trans⟩
/-- Nothing but draws and new memory. -/
def Blw (w w' : World) : Prop := Below w.heap.size w w'
theorem blw_ok : RelOk Blw := ⟨fun _ => Below.refl _ _, fun h h2 => bl2 h h2⟩
variable {R : World → World → Prop}
/-- It looks at no memory. -/
def reckB (o : Oper) : Bool := match o.op with | .move _ | .nilCheck _ | .fieldAddr .. | .indexAddr .. | .unOp .. | .binOp .. | .build .. | .slice .. => true | _ => false
def wpAnyK (P : Program) (md : Region.Mode) (ops : Array Oper) (Q : Exit → Act → World → Prop) (R : World → World → Prop) (n : Nat) : Nat → Array Bool → Act → World → Prop
  | 0, listed, a, w => Region.ready md ops listed = [] ∧ Q .normal a w
  | fuel + 1, listed, a, w =>
    (Region.ready md ops listed = [] → Q .normal a w) ∧
    ∀ i ∈ Region.ready md ops listed, wpOp P ops Q i (fun a' w' => (i < n → R w w') ∧ wpAnyK P md ops Q R n fuel (listed.setIfInBounds i true) a' w') a w
theorem wpAny_of_K : ∀ (fuel : Nat) (listed : Array Bool) (a : Act) (w : World), wpAnyK P md ops Q R n fuel listed a w → wpAny P md ops Q fuel listed a w
  | 0, _, _, _, h => h
  | fuel + 1, _, _, _, h => ⟨h.1, fun i hi => wpOp_mono (fun a' w' h' => wpAny_of_K fuel _ a' w' h'.2) (h.2 i hi)⟩
theorem wpAnyK_first {i : Nat} {oi : Oper} {v : Value} {p : Bool} (hR : RelOk R) (hi : ops[i]? = some oi) (hsel : ∀ (j : Nat) (o : Oper) cs b, ops[j]? = some o → o.op ≠ .select cs b)
    (hQ : ∀ c a w, Q (.panic c) (a.put oi.dst v) w → Q (.panic c) a w)
    (hT : p = true ∨ ∀ j oj, ops[j]? = some oj → n ≤ j → ∃ e ∈ oj.after, Region.binds md e = true ∧ e.on = i) :
    ∀ (fuel : Nat) (listed : Array Bool) (a : Act) (w : World),
      (∀ j oj, ops[j]? = some oj → j ≠ i → listed.getD j true = false → (∀ e ∈ oj.after, Region.binds md e = true → e.on ≠ i) → oi.apart ops oj = true) →
      i ∈ Region.ready md ops listed → YieldsIf P ops (fun w => p = true ∨ R w0 w) oi v a → (p = true ∨ R w0 w) →
      wpAnyK P md ops Q R n fuel (listed.setIfInBounds i true) (a.put oi.dst v) w → wpAnyK P md ops Q R n (fuel + 1) listed a w := by
  intro fuel
  induction fuel with
  | zero =>
    intro listed a w _ hr hy hS H
    refine ⟨fun h => (by rw [h] at hr; cases hr), fun j hj => ?_⟩
    by_cases hji : j = i
    · subst hji; exact hy.wpOp hi hS ⟨fun _ => hR.self _, H⟩
    · have := ready_mono hj hji
      rw [H.1] at this
      cases this
  | succ fuel ih =>
    intro listed a w hfree hr hy hS H
    refine ⟨fun h => (by rw [h] at hr; cases hr), fun j hj => ?_⟩
    by_cases hji : j = i
    · subst hji; exact hy.wpOp hi hS ⟨fun _ => hR.self _, H⟩
    · have h1 := H.2 j (ready_mono hj hji)
      obtain ⟨hjun, oj, hoj, hall⟩ := mem_ready.1 hj
      have hnot : ∀ e ∈ oj.after, Region.binds md e = true → e.on ≠ i := fun e he hb heq => by
        have h1 := hall e he hb
        have h0 := (mem_ready.1 hr).1
        rw [heq] at h1
        rcases Nat.lt_or_ge i listed.size with h' | h'
        · simp [h'] at h0 h1; rw [h0] at h1; cases h1
        · simp [Array.getElem?_eq_none h'] at h1
      have h2 := wpOp_putIf hoj (hfree j oj hoj hji hjun hnot) (fun cs b => hsel i oi cs b hi) (fun cs b => hsel j oj cs b hoj) hQ hy h1
      have hfree' : ∀ k ok, ops[k]? = some ok → k ≠ i → (listed.setIfInBounds j true).getD k true = false →
          (∀ e ∈ ok.after, Region.binds md e = true → e.on ≠ i) → oi.apart ops ok = true := fun k ok hk hki hun hno => by
        refine hfree k ok hk hki ?_ hno
        by_cases hjk : j = k
        · subst hjk; exact hjun
        · rw [getD_set_ne true hjk] at hun; exact hun
      have hjn : p = true ∨ j < n := by
        rcases hT with h | h
        · exact .inl h
        · rcases Nat.lt_or_ge j n with h3 | h3
          · exact .inr h3
          · obtain ⟨e, he, hb, heq⟩ := h j oj hoj h3
            exact absurd heq (hnot e he hb)
      refine wpOp_mono (fun a' w' h3 => ⟨h3.2.1, ih (listed.setIfInBounds j true) a' w' hfree' (ready_mono hr (Ne.symm hji)) h3.1 ?_ ?_⟩) h2
      · rcases hS with h | h
        · exact .inl h
        · rcases hjn with h4 | h4
          · exact .inl h4
          · exact .inr (hR.trans h (h3.2.1 h4))
      · rw [Array.setIfInBounds_comm _ _ hji]
        exact h3.2.2
/-- The walk of the text's order: one value in every world of the class. -/
def Oper.gives (P : Program) (o : Oper) (a : Act) (C : World → Prop) (next : Act → Prop) : Prop := ∃ v, (∀ w, C w → (execOp a.eval o).run P w = .ok (.value v) w) ∧ next (a.put o.dst v)
def wpTk (P : Program) (ops : Array Oper) (R : World → World → Prop) (w0 : World) (L : Act → Prop) : List Oper → Act → Prop
  | [], a => L a
  | o :: rest, a => if Region.wanted o (yielded ops a.tmps) then Oper.gives P o a (fun w => reckB o = true ∨ R w0 w) (wpTk P ops R w0 L rest) else wpTk P ops R w0 L rest (a.put o.dst undef)
theorem wpTk_reck {L : Act → Prop} {o : Oper} {rest : List Oper} {a : Act} (hg : o.guard = none) (_ : reckB o = true) (h : ∀ K : Act → Prop, (∀ a, wpTk P ops R w0 L rest a → K a) → Oper.gives P o a (fun _ => True) K) : wpTk P ops R w0 L (o :: rest) a := by
  have hw : Region.wanted o (yielded ops a.tmps) = true := by simp [Region.wanted, hg]
  unfold wpTk
  rw [if_pos hw]
  obtain ⟨v, h1, h2⟩ := h _ (fun _ h => h)
  exact ⟨v, fun w _ => h1 w trivial, h2⟩
theorem wpTk_load {L : Act → Prop} {o : Oper} {rest : List Oper} {a : Act} (hg : o.guard = none) (hr : reckB o = false) (h : ∀ K : Act → Prop, (∀ a, wpTk P ops R w0 L rest a → K a) → Oper.gives P o a (fun w => R w0 w) K) : wpTk P ops R w0 L (o :: rest) a := by
  have hw : Region.wanted o (yielded ops a.tmps) = true := by simp [Region.wanted, hg]
  unfold wpTk
  rw [if_pos hw]
  obtain ⟨v, h1, h2⟩ := h _ (fun _ h => h)
  exact ⟨v, fun w hw => h1 w (hw.resolve_left (by rw [hr]; decide)), h2⟩
theorem wpTk_loadD {L : Act → Prop} {o : Oper} {rest : List Oper} {a : Act} (hg : o.guard = none) (hr : reckB o = false) (h : ∀ K : Act → Prop, (∀ a, wpTk P ops Drw w0 L rest a → K a) → Oper.gives P o a (fun w => ∃ d, w = w0.drewN d) K) : wpTk P ops Drw w0 L (o :: rest) a := wpTk_load hg hr h
theorem wpTk_nil {L : Act → Prop} {a : Act} (h : L a) : wpTk P ops R w0 L [] a := h
def readyB (md : Region.Mode) (ops : Array Oper) (listed : Array Bool) (i : Nat) : Bool :=
  decide (i < ops.size) && !listed.getD i true && ((ops[i]?).map (·.after.all fun e => !Region.binds md e || listed.getD e.on false)).getD false
theorem readyB_spec {listed : Array Bool} {i : Nat} (h : readyB md ops listed i = true) : i ∈ Region.ready md ops listed := by
  unfold readyB at h
  unfold Region.ready
  simp only [Bool.and_eq_true, decide_eq_true_eq] at h
  exact List.mem_filter.2 ⟨List.mem_range.2 h.1.1, by simp only [Bool.and_eq_true]; exact ⟨h.1.2, h.2⟩⟩
def freeB (md : Region.Mode) (ops : Array Oper) (listed : Array Bool) (i : Nat) : Bool :=
  match ops[i]? with
  | none => false
  | some oi => (List.range ops.size).all fun j => j == i || listed.getD j true || (match ops[j]? with
    | none => true
    | some oj => oi.apart ops oj || Region.waitsFor md ops j i)
theorem freeB_spec {listed : Array Bool} {i : Nat} {oi : Oper} (hi : ops[i]? = some oi) (h : freeB md ops listed i = true) :
    ∀ j oj, ops[j]? = some oj → j ≠ i → listed.getD j true = false → (∀ e ∈ oj.after, Region.binds md e = true → e.on ≠ i) → oi.apart ops oj = true := by
  intro j oj hj hji hl hno
  unfold freeB at h
  rw [hi] at h
  have h2 := List.all_eq_true.1 h j (List.mem_range.2 (Array.getElem?_eq_some_iff.1 hj).1)
  rw [hj, hl] at h2
  simp only [Bool.or_eq_true, beq_iff_eq, Bool.false_eq_true, or_false] at h2
  rcases h2 with h2 | h2 | h2
  · exact absurd h2 hji
  · exact h2
  · obtain ⟨o2, ho2, e, he, hb, hon⟩ := Region.waitsFor_spec h2
    have : o2 = oj := Option.some.inj (ho2.symm.trans hj)
    subst this
    exact absurd hon (hno e he hb)
def takesFrom (md : Region.Mode) (ops : Array Oper) (n m : Nat) : Nat → Nat → Array Bool → Bool
  | 0, k, listed => Region.seqB md ops (ops.size - n) k listed
  | f + 1, k, listed => readyB md ops listed k && freeB md ops listed k && ((ops[k]?.map reckB).getD false || (List.range ops.size).all fun j => decide (j < m) || Region.waitsFor md ops j k) && takesFrom md ops n m f (k + 1) (listed.setIfInBounds k true)
theorem wpAnyK_seq : ∀ (l : List Oper) (k : Nat) (listed : Array Bool) (a : Act) (w : World), n ≤ k → (∀ j, l[j]? = ops[k + j]?) →
    Region.seqB md ops l.length k listed = true → wpList P ops Q l a w → wpAnyK P md ops Q R n l.length listed a w
  | [], _, _, _, _, _, _, hB, h => ⟨by simpa [Region.seqB] using hB, h⟩
  | o :: l, k, listed, a, w, hk, hl, hB, h => by
    have h0 : ops[k]? = some o := by simpa using (hl 0).symm
    simp only [List.length_cons, Region.seqB, Bool.and_eq_true, decide_eq_true_eq] at hB
    refine ⟨fun h1 => (by rw [hB.1] at h1; cases h1), fun i hi => ?_⟩
    rw [hB.1] at hi
    have hik : i = k := by simpa using hi
    subst hik
    have hw : wpOp P ops Q i (wpList P ops Q l) a w := by unfold wpOp; simp only [h0]; exact h
    exact wpOp_mono (fun a' w' h' => ⟨fun h3 => absurd h3 (by omega), wpAnyK_seq l (i + 1) _ a' w' (by omega) (fun j => by have := hl (j + 1); simpa [Nat.add_assoc, Nat.add_comm 1 j] using this) hB.2 h'⟩) hw
/-- Calls that only draw stand ahead of the rest. -/
def wpDs (P : Program) (ops : Array Oper) (Q : Exit → Act → World → Prop) (R : World → World → Prop) : Nat → List Oper → Act → World → Prop
  | 0, l, a, w => wpList P ops Q l a w
  | _ + 1, [], _, _ => False
  | c + 1, o :: rest, a, w => if Region.wanted o (yielded ops a.tmps) then o.wp P a w (fun a' w' => R w w' ∧ wpDs P ops Q R c rest a' w') Q else wpDs P ops Q R c rest (a.put o.dst undef) w
theorem wpDs_zero {l : List Oper} {a : Act} {w : World} (h : wpList P ops Q l a w) : wpDs P ops Q R 0 l a w := h
theorem wpDs_step {c : Nat} {o : Oper} {rest : List Oper} {a : Act} {w : World} (hg : o.guard = none) (h : ∀ K : Act → World → Prop, (∀ a' w', R w w' → wpDs P ops Q R c rest a' w' → K a' w') → o.wp P a w K Q) : wpDs P ops Q R (c + 1) (o :: rest) a w := by
  have hw : Region.wanted o (yielded ops a.tmps) = true := by simp [Region.wanted, hg]
  unfold wpDs
  rw [if_pos hw]
  exact h _ (fun a' w' hr h => ⟨hr, h⟩)
theorem wpDs_call {c : Nat} {o : Oper} {rest : List Oper} {a : Act} {w : World} (hg : o.guard = none) (h : ∀ K : Act → World → Prop, (∀ a' d, wpDs P ops Q Drw c rest a' (w.drewN d) → K a' (w.drewN d)) → o.wp P a w K Q) : wpDs P ops Q Drw (c + 1) (o :: rest) a w := by
  have hw : Region.wanted o (yielded ops a.tmps) = true := by simp [Region.wanted, hg]
  unfold wpDs
  rw [if_pos hw]
  exact h _ (fun a' d h => ⟨⟨d, rfl⟩, h⟩)
theorem wpAnyK_seqD {m : Nat} (hR : RelOk R) : ∀ (c : Nat) (l : List Oper) (k : Nat) (listed : Array Bool) (a : Act) (w : World), k + c = m → (∀ j, l[j]? = ops[k + j]?) →
    Region.seqB md ops l.length k listed = true → wpDs P ops Q R c l a w → wpAnyK P md ops Q R m l.length listed a w
  | 0, l, k, listed, a, w, hk, hl, hB, h => wpAnyK_seq l k listed a w (by omega) hl hB h
  | _ + 1, [], _, _, _, _, _, _, _, h => absurd h (by simp [wpDs])
  | c + 1, o :: l, k, listed, a, w, hk, hl, hB, h => by
    have h0 : ops[k]? = some o := by simpa using (hl 0).symm
    simp only [List.length_cons, Region.seqB, Bool.and_eq_true, decide_eq_true_eq] at hB
    refine ⟨fun h1 => (by rw [hB.1] at h1; cases h1), fun i hi => ?_⟩
    rw [hB.1] at hi
    have hik : i = k := by simpa using hi
    subst hik
    have hrec := fun a' w' (h' : wpDs P ops Q R c l a' w') => wpAnyK_seqD (m := m) hR c l (i + 1) (listed.setIfInBounds i true) a' w' (by omega) (fun j => by have := hl (j + 1); simpa [Nat.add_assoc, Nat.add_comm 1 j] using this) hB.2 h'
    unfold wpDs at h
    unfold wpOp
    simp only [h0]
    split
    · rename_i hw
      rw [if_pos hw] at h
      exact .inl (Oper.wp_mono (fun a' w' h' => ⟨fun _ => h'.1, hrec a' w' h'.2⟩) h)
    · rename_i hw
      rw [if_neg hw] at h
      exact ⟨fun _ => hR.self _, hrec _ _ h⟩
theorem panic_put (hQ : ∀ c a t v w, Q (.panic c) (Act.put a (some t) v) w → Q (.panic c) a w) (d : Option Tmp) (v : Value) : ∀ c a w, Q (.panic c) (Act.put a d v) w → Q (.panic c) a w := by
  intro c a w h
  cases d with
  | none => exact h
  | some t => exact hQ c a t v w h
theorem wpAnyK_takes {L : Act → Prop} {g m : Nat} (hR : RelOk R) (hg : g = ops.size - n) (hnm : n ≤ m) (hs : Region.noSelect ops = true) (hQ : ∀ c a t v w, Q (.panic c) (Act.put a (some t) v) w → Q (.panic c) a w) (hL : ∀ listed a, Region.seqB md ops g n listed = true → L a → wpAnyK P md ops Q R m g listed a w0) :
    ∀ (l : List Oper) (k : Nat) (listed : Array Bool) (a : Act), (∀ j, j < l.length → l[j]? = ops[k + j]?) → k + l.length = n →
    takesFrom md ops n m l.length k listed = true → wpTk P ops R w0 L l a → wpAnyK P md ops Q R m (l.length + g) listed a w0
  | [], k, listed, a, _, hk, hB, h => by
    have : k = n := by simpa using hk
    subst this
    rw [List.length_nil, Nat.zero_add]
    refine hL listed a ?_ h
    rw [hg]
    exact hB
  | o :: l, k, listed, a, hl, hk, hB, h => by
    have h0 : ops[k]? = some o := by simpa using (hl 0 (by simp)).symm
    simp only [List.length_cons, takesFrom, Bool.and_eq_true] at hB
    obtain ⟨⟨⟨hr, hf⟩, hp⟩, hB'⟩ := hB
    have hlen : (o :: l).length + g = (l.length + g) + 1 := by simp only [List.length_cons]; omega
    rw [hlen]
    have hrec := fun (v : Value) (hK : wpTk P ops R w0 L l (a.put o.dst v)) => wpAnyK_takes hR hg hnm hs hQ hL l (k + 1) (listed.setIfInBounds k true) (a.put o.dst v) (fun j hj => by have := hl (j + 1) (by simp; omega); simpa [Nat.add_assoc, Nat.add_comm 1 j] using this) (by simp only [List.length_cons] at hk; omega) hB' hK
    have hT : reckB o = true ∨ ∀ j oj, ops[j]? = some oj → m ≤ j → ∃ e ∈ oj.after, Region.binds md e = true ∧ e.on = k := by
      rw [h0] at hp
      simp only [Option.map_some, Option.getD_some, Bool.or_eq_true] at hp
      rcases hp with hp | hp
      · exact .inl hp
      · refine .inr fun j oj hoj hj => ?_
        have h3 := List.all_eq_true.1 hp j (List.mem_range.2 (Array.getElem?_eq_some_iff.1 hoj).1)
        simp only [Bool.or_eq_true, decide_eq_true_eq] at h3
        rcases h3 with h3 | h3
        · omega
        · obtain ⟨o2, ho2, e, he, hb, hon⟩ := Region.waitsFor_spec h3
          have : o2 = oj := Option.some.inj (ho2.symm.trans hoj)
          subst this
          exact ⟨e, he, hb, hon⟩
    unfold wpTk at h
    by_cases hw : Region.wanted o (yielded ops a.tmps) = true
    · rw [if_pos hw] at h
      obtain ⟨v, h1, h2⟩ := h
      exact wpAnyK_first (w0 := w0) (p := reckB o) hR h0 (Region.noSelect_spec hs) (panic_put hQ _ v) hT _ listed a w0 (freeB_spec h0 hf) (readyB_spec hr) (.inl ⟨hw, h1⟩) (.inr (hR.self _)) (hrec v h2)
    · rw [if_neg hw] at h
      exact wpAnyK_first (w0 := w0) (p := reckB o) hR h0 (Region.noSelect_spec hs) (panic_put hQ _ undef) hT _ listed a w0 (freeB_spec h0 hf) (readyB_spec hr) (.inr ⟨by simpa using hw, rfl⟩) (.inr (hR.self _)) (hrec undef h)
/-- The law of such a region: n operations that reckon or read, c that keep R, the stores. -/
theorem wp_region_takesR {id : Nat} {a : Act} {w : World} {l : List Oper} (hR : RelOk R) (n c : Nat) (hm : P.follows .mixedOrders = true) (hB : (Region.noSelect l.toArray && decide (n + c ≤ l.length) && takesFrom .any l.toArray n (n + c) n 0 (Array.replicate l.toArray.size false)) = true)
    (hQ : ∀ c a t v w, Q (.panic c) (Act.put a (some t) v) w → Q (.panic c) a w)
    (h : wpTk P l.toArray R w.drew (fun a' => wpDs P l.toArray Q R c (l.drop n) a' w.drew) (l.take n) a) : (Code.region id l.toArray true).wp P Q a w := by
  simp only [Bool.and_eq_true, decide_eq_true_eq] at hB
  obtain ⟨⟨hs, hn⟩, hB⟩ := hB
  have htl : (l.take n).length = n := by simp; omega
  have hdl : (l.drop n).length = l.toArray.size - n := by simp
  refine wp_region_any hm (wpAny_of_K (R := R) (n := n + c) _ _ _ _ ?_)
  have H := wpAnyK_takes (md := .any) (ops := l.toArray) (n := n) (m := n + c) (w0 := w.drew) (Q := Q) (P := P) hR rfl (Nat.le_add_right n c) hs hQ (fun listed a' hseq hL => by
    have := wpAnyK_seqD (md := .any) (Q := Q) (m := n + c) (ops := l.toArray) hR c (l.drop n) n listed a' w.drew rfl (fun j => by simp [List.getElem?_drop]) (by rw [hdl]; exact hseq) hL
    rwa [hdl] at this) (l.take n) 0 (Array.replicate l.toArray.size false) a (fun j hj => by
      have hj' : j < n := by rw [htl] at hj; exact hj
      simp [hj']) (by simpa using htl) (by rw [htl]; exact hB) h
  rw [htl, show n + (l.toArray.size - n) = l.toArray.size by simp; omega] at H
  exact H
theorem wp_region_takes {id : Nat} {a : Act} {w : World} {l : List Oper} (n c : Nat) (hm : P.follows .mixedOrders = true) (hB : (Region.noSelect l.toArray && decide (n + c ≤ l.length) && takesFrom .any l.toArray n (n + c) n 0 (Array.replicate l.toArray.size false)) = true)
    (hQ : ∀ c a t v w, Q (.panic c) (Act.put a (some t) v) w → Q (.panic c) a w)
    (h : wpTk P l.toArray Drw w.drew (fun a' => wpDs P l.toArray Q Drw c (l.drop n) a' w.drew) (l.take n) a) : (Code.region id l.toArray true).wp P Q a w := wp_region_takesR drw_ok n c hm hB hQ h
end
end Go.Proofs.Ytgcakhmdmajplaa

namespace Go.Proofs.Ytgcakhmdmajplaa
open Go.RowKit

/-- An eliminated matrix lies there. -/
def LoV (w : World) (lb n : Nat) (M : Nat → Nat → CV) (od : Nat → Nat) (sg : Int) : Prop := ∃ B ρ rv ov rw rs, LoR B ρ w lb n rv ov sg rw od rs id n ∧ Ent rs n M
section
variable {w : World} {lb n : Nat} {M : Nat → Nat → CV} {od : Nat → Nat} {sg : Int}
theorem LoV.below (h : LoV w lb n M od sg) {w' : World} (hb : Below w.heap.size w w') : LoV w' lb n M od sg := by
  obtain ⟨B, ρ, rv, ov, rw, rs, H, hE⟩ := h
  exact ⟨B, ρ, rv, ov, rw, rs, ⟨H.own.below hb, H.st, H.rows, H.order, H.row⟩, hE⟩
theorem LoV.c0 (h : LoV w lb n M od sg) : w.cell? ⟨lb, 0, none⟩ = some (.bool true) := by
  obtain ⟨B, ρ, rv, ov, rw, rs, H, hE⟩ := h
  exact H.own.cell H.st (j := 0) rfl
theorem LoV.c3 (h : LoV w lb n M od sg) : w.cell? ⟨lb, 3, none⟩ = some (.int .i64 sg) := by
  obtain ⟨B, ρ, rv, ov, rw, rs, H, hE⟩ := h
  exact H.own.cell H.st (j := 3) rfl
theorem LoV.c1 (h : LoV w lb n M od sg) : ∃ a c, w.cell? ⟨lb, 1, none⟩ = some (.slice a n c) := by
  obtain ⟨B, ρ, rv, ov, rw, rs, H, hE⟩ := h
  obtain ⟨a, c, rfl, -⟩ := own_cap (H.own.at H.rows)
  exact ⟨a, c, H.own.cell H.st (j := 1) rfl⟩
theorem LoV.c2 (h : LoV w lb n M od sg) : ∃ a c, w.cell? ⟨lb, 2, none⟩ = some (.slice a n c) ∧ (0 < n → ∃ g, a = some ⟨g, 0, none⟩ ∧ ∀ j, j < n → w.cell? ⟨g, j, none⟩ = some (.int .i64 (od j : Int))) := by
  obtain ⟨B, ρ, rv, ov, rw, rs, H, hE⟩ := h
  by_cases hn : 0 < n
  · obtain ⟨gr, cr, go, co, gb, cb, H⟩ := H.form hn
    exact ⟨_, _, H.c2, fun _ => ⟨go, rfl, fun j hj => H.oc hj⟩⟩
  · obtain ⟨a, c, rfl, -⟩ := own_cap (H.own.at H.order)
    exact ⟨a, c, H.own.cell H.st (j := 2) rfl, fun h => absurd h hn⟩
/-- The entry's cells. -/
theorem LoV.el (h : LoV w lb n M od sg) {i j : Nat} (hi : i < n) (hj : j < n) : ∃ (gr cr g c : Nat) (z : Z), w.cell? ⟨lb, 1, none⟩ = some (.slice (some ⟨gr, 0, none⟩) n cr) ∧ w.cell? ⟨gr, i, none⟩ = some (.slice (some ⟨g, 0, none⟩) n c) ∧ w.cell? ⟨g, j, none⟩ = some (.complex .f64 z.1 z.2) ∧ cv z.1 z.2 = M i j := by
  obtain ⟨B, ρ, rv, ov, rw, rs, H, hE⟩ := h
  obtain ⟨gr, cr, go, co, gb, cb, H⟩ := H.form (Nat.zero_lt_of_lt hi)
  obtain ⟨z, hz, hv⟩ := hE i hi j hj
  exact ⟨gr, cr, gb i, cb i, z, H.c1, H.rc hi, H.ec hi hz, hv⟩
theorem is_made (h : LoV w lb n M od sg) : Calls Try.prog 97 #[.pointer (some ⟨lb, 0, none⟩)] w fun E w' => E = .returned (.bool true) ∧ w = w' := by
  have c0 := h.c0
  go_enter Try.func97, Try.ntmps97
  go_wp2
  go_ret
  exact ⟨rfl, rfl⟩
theorem Sign_made (h : LoV w lb n M od sg) : Calls Try.prog 88 #[.pointer (some ⟨lb, 0, none⟩)] w fun E w' => E = .returned (.int .i64 sg) ∧ w = w' := by
  have c3 := h.c3
  have HI := hid (is_made h)
  go_enter Try.func88, Try.ntmps88
  go_wp2_with (go_at_call 97; (with_reducible refine HI.out.mono ?_); rintro E1 w1 ⟨rfl, rfl⟩)
  go_ret
  exact ⟨rfl, rfl⟩
theorem Size_made (h : LoV w lb n M od sg) : Calls Try.prog 89 #[.pointer (some ⟨lb, 0, none⟩)] w fun E w' => E = .returned (.int .i64 n) ∧ w = w' := by
  obtain ⟨a, c, c1⟩ := h.c1
  have HI := hid (is_made h)
  go_enter Try.func89, Try.ntmps89
  go_wp2_with (go_at_call 97; (with_reducible refine HI.out.mono ?_); rintro E1 w1 ⟨rfl, rfl⟩)
  go_ret
  exact ⟨rfl, rfl⟩
/-- The factors. -/
def lE (M : Nat → Nat → CV) (i j : Nat) : CV := if i = j then (val 4607182418800017408, val 0) else if j < i then M i j else (val 0, val 0)
def uE (M : Nat → Nat → CV) (i j : Nat) : CV := if j < i then (val 0, val 0) else M i j
def RetCW (w : World) (z : CV) (E : Ending) (w' : World) : Prop := ∃ x y, E = .returned (.complex .f64 x y) ∧ cv x y = z ∧ w = w'
theorem L_entry (h : LoV w lb n M od sg) {b i j : Nat} (hb : w.cell? ⟨b, 0, none⟩ = some (.pointer (some ⟨lb, 0, none⟩))) (hi : i < n) (hj : j < n) : Calls Try.prog 99 #[.int .i64 i, .int .i64 j, .pointer (some ⟨b, 0, none⟩)] w (RetCW w (lE M i j)) := by
  obtain ⟨gr, cr, g, c, z, c1, c2, c3, hv⟩ := h.el hi hj
  have g1 : (i : Int) < (n : Int) := by omega
  have g2 : (j : Int) < (n : Int) := by omega
  by_cases h1 : i = j
  · have g3 : (i : Int) = (j : Int) := by omega
    have hE := hid (show lE M i j = (val 4607182418800017408, val 0) from if_pos h1)
    clear h1
    go_enter Try.func99, Try.ntmps99
    go_wp2
    go_ret
    exact ⟨_, _, rfl, hE.out.symm, rfl⟩
  · have g3 : ¬ (i : Int) = (j : Int) := by omega
    by_cases h2 : j < i
    · have g4 : (j : Int) < (i : Int) := by omega
      have hE := hid (show lE M i j = M i j by unfold lE; rw [if_neg h1, if_pos h2])
      go_enter Try.func99, Try.ntmps99
      go_wp2
      go_ret
      exact ⟨_, _, rfl, hv.trans hE.out.symm, rfl⟩
    · have g4 : ¬ (j : Int) < (i : Int) := by omega
      have hE := hid (show lE M i j = (val 0, val 0) by unfold lE; rw [if_neg h1, if_neg h2])
      go_enter Try.func99, Try.ntmps99
      go_wp2
      go_ret
      exact ⟨_, _, rfl, hE.out.symm, rfl⟩
theorem U_entry (h : LoV w lb n M od sg) {b i j : Nat} (hb : w.cell? ⟨b, 0, none⟩ = some (.pointer (some ⟨lb, 0, none⟩))) (hi : i < n) (hj : j < n) : Calls Try.prog 100 #[.int .i64 i, .int .i64 j, .pointer (some ⟨b, 0, none⟩)] w (RetCW w (uE M i j)) := by
  obtain ⟨gr, cr, g, c, z, c1, c2, c3, hv⟩ := h.el hi hj
  have g1 : (i : Int) < (n : Int) := by omega
  have g2 : (j : Int) < (n : Int) := by omega
  by_cases h2 : j < i
  · have g4 : (j : Int) < (i : Int) := by omega
    have hE := hid (show uE M i j = (val 0, val 0) from if_pos h2)
    go_enter Try.func100, Try.ntmps100
    go_wp2
    go_ret
    exact ⟨_, _, rfl, hE.out.symm, rfl⟩
  · have g4 : ¬ (j : Int) < (i : Int) := by omega
    have hE := hid (show uE M i j = M i j from if_neg h2)
    go_enter Try.func100, Try.ntmps100
    go_wp2
    go_ret
    exact ⟨_, _, rfl, hv.trans hE.out.symm, rfl⟩
end
/-- 'make([]complex128, 0, m)'. -/
theorem make_cap (m : Nat) (hm : m ≤ 4096) (w : World) : (Instr.makeSlice 33 (.int .i64 0) (.int .i64 m)).run Try.prog w = .ok (.slice (some ⟨w.heap.size, 0, none⟩) 0 m) (w.alloc (.cells (Array.replicate m (Value.complex .f64 0 0)) 44)) := by
  have hi : (Try.prog.info? 44).map (fun i => (i.zero, i.size, i.bytes)) = some (some (.complex .f64 0 0), 1, 16) := by kernel_rfl
  obtain ⟨i, hi1, hz0, hz1, hz2⟩ := info_parts hi
  have hr := run_make (P := Try.prog) w 33 44 i (.complex .f64 0 0) Try.underlying33 hi1 hz0 .i64 .i64 0 m (by omega) (by omega) (by rw [hz2]; omega) (by omega)
  simp only [hz1] at hr
  have e : (Array.replicate m (Value.complex .f64 0 0)) = madeCells #[.complex .f64 0 0] (m * 1) := by
    apply Array.ext'
    rw [Nat.mul_one, toList_madeCells_one]
    simp
  rw [e]
  exact hr
end Go.Proofs.Ytgcakhmdmajplaa
