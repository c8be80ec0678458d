/- A net whose sources are turned half about is solved to the opposites; one whose sources are silent to noughts. Plain; no condition. -/
import Derived.Test.YtgcakhmdmajplaaTtDM
import Derived.Test.YtgcakhmdmajplaaTlEM
import Derived.Test.YtgcakhmdmajplaaTzOM
namespace Go.Proofs.Ytgcakhmdmajplaa
open Go.RowKit

/-- Half a turn further. -/
def tE (e : El) : El := if srcK e.kind = true then { e with ph := e.ph.tmod 24 + 12 } else e
/-- Silent. -/
def qE (e : El) : El := if srcK e.kind = true then { e with v := 0 } else e
/-- A change of sources' values and phases alone. -/
structure Src (f : El → El) : Prop where
  k : ∀ e, (f e).kind = e.kind
  n : ∀ e, (f e).name = e.name
  a : ∀ e, (f e).a = e.a
  b : ∀ e, (f e).b = e.b
  c : ∀ e, (f e).c = e.c
  d : ∀ e, (f e).d = e.d
  o : ∀ e, srcK e.kind = false → f e = e
  ck : ∀ e, checkE e = 0 → checkE (f e) = 0
theorem src_kind {k : Nat} (h : srcK k = true) : k = 4 ∨ k = 5 := by
  unfold srcK at h
  simpa using h
theorem src_t : Src tE := by
  have hk : ∀ e, (tE e).kind = e.kind := fun e => by unfold tE; split <;> rfl
  refine ⟨hk, fun e => ?_, fun e => ?_, fun e => ?_, fun e => ?_, fun e => ?_, fun e h => ?_, fun e h => ?_⟩
  · unfold tE; split <;> rfl
  · unfold tE; split <;> rfl
  · unfold tE; split <;> rfl
  · unfold tE; split <;> rfl
  · unfold tE; split <;> rfl
  · unfold tE; rw [h]; rfl
  · cases hs : srcK e.kind with
    | false => unfold tE; rw [hs]; exact h
    | true =>
      have he : tE e = { e with ph := e.ph.tmod 24 + 12 } := by unfold tE; rw [if_pos hs]
      rw [he]
      have hp : phK e.kind = true := hs
      unfold checkE namedE argE at h ⊢
      dsimp only at h ⊢
      rw [hp] at h ⊢
      simpa using h
theorem src_q : Src qE := by
  have hk : ∀ e, (qE e).kind = e.kind := fun e => by unfold qE; split <;> rfl
  refine ⟨hk, fun e => ?_, fun e => ?_, fun e => ?_, fun e => ?_, fun e => ?_, fun e h => ?_, fun e h => ?_⟩
  · unfold qE; split <;> rfl
  · unfold qE; split <;> rfl
  · unfold qE; split <;> rfl
  · unfold qE; split <;> rfl
  · unfold qE; split <;> rfl
  · unfold qE; rw [h]; rfl
  · cases hs : srcK e.kind with
    | false => unfold qE; rw [hs]; exact h
    | true =>
      have he : qE e = { e with v := 0 } := by unfold qE; rw [if_pos hs]
      rw [he]
      have ha : abK e.kind = false := by rcases src_kind hs with h | h <;> rw [h] <;> rfl
      obtain ⟨h1, h2, h3, -, -⟩ := checkE_parts h
      unfold checkE
      rw [if_pos h1, if_pos (show namedE { e with v := 0 } = true from h2), if_neg (show ¬ argE { e with v := 0 } = true from by show ¬ argE e = true; rw [h3]; simp), if_neg (show ¬ 2 < kindF 0 from by decide)]
      dsimp only
      rw [ha]
      rfl
section
variable {f : El → El} (hf : Src f)
include hf
theorem stamp_src (nodes br : List ByteArray) (S : Bd) {e : El} (h : srcK e.kind = true) (y : CV) : stampE nodes br S (f e) y = stampE nodes br S e y := by
  unfold stampE
  rw [hf.k, hf.n, hf.a, hf.b, hf.c, hf.d]
  rcases src_kind h with h | h <;> rw [h] <;> rfl
theorem matG_src (nodes br : List ByteArray) (x : Option Nat) : ∀ (L : List El) (k : Nat) (S : Bd), matG nodes br x k S (L.map f) = matG nodes br x k S L
  | [], _, _ => rfl
  | e :: r, k, S => by
    rw [List.map_cons]
    cases hs : srcK e.kind with
    | false =>
      rw [hf.o e hs]
      unfold matG
      rw [matG_src nodes br x r]
    | true =>
      have ha : admK e.kind = false := by rcases src_kind hs with h | h <;> rw [h] <;> rfl
      unfold matG
      rw [hf.k, ha]
      simp only [Bool.false_eq_true, false_and, if_false]
      rw [stamp_src hf nodes br S hs, matG_src nodes br x r]
theorem matF_src (nodes br : List ByteArray) (L : List El) (x : Option Nat) : matF nodes br (L.map f) x = matF nodes br L x := by
  unfold matF
  rw [matG_src hf]
theorem gndF_src (nodes : List ByteArray) (L : List El) : gndF nodes (L.map f) = gndF nodes L := by
  have : upAll nodes (L.map f) = upAll nodes L := by
    unfold upAll
    rw [List.foldl_map]
    congr 1
    funext up e
    unfold upE
    rw [hf.k, hf.a, hf.b]
  unfold gndF
  rw [this]
theorem wrkF_src (nodes br : List ByteArray) (L : List El) (x : Option Nat) : wrkF nodes br (L.map f) x = wrkF nodes br L x := by
  unfold wrkF
  rw [gndF_src hf, matF_src hf]
theorem netG_src : ∀ (L : List El) (s s' : NetS) (i : Nat), netG s i L = .inr s' → netG ⟨s.l.map f, s.nodes, s.br⟩ i (L.map f) = .inr ⟨s'.l.map f, s'.nodes, s'.br⟩
  | [], s, s', i, h => by
    simp [netG] at h ⊢
    rw [h]
    exact ⟨rfl, rfl, rfl⟩
  | e :: r, s, s', i, h => by
    rw [List.map_cons]
    unfold netG at h ⊢
    split at h
    · rename_i hc
      rw [if_pos (hf.ck e hc)]
      have hnm : nmL (s.l.map f) = nmL s.l := by
        unfold nmL
        rw [List.map_map]
        congr 1
        funext e
        exact hf.n e
      split at h
      · cases h
      · rename_i hn
        rw [show nmL (⟨s.l.map f, s.nodes, s.br⟩ : NetS).l = nmL s.l from hnm, hf.n, if_neg hn]
        have hp : putN ⟨s.l.map f, s.nodes, s.br⟩ (f e) = ⟨(putN s e).l.map f, (putN s e).nodes, (putN s e).br⟩ := by
          unfold putN fourE
          rw [hf.k, hf.n, hf.a, hf.b, hf.c, hf.d]
          simp
        rw [hp]
        exact netG_src r _ _ _ h
    · cases h
theorem netF_src {L : List El} {s : NetS} (h : netF L = ((0, 0), some s)) : netF (L.map f) = ((0, 0), some ⟨s.l.map f, s.nodes, s.br⟩) := by
  unfold netF at h ⊢
  rw [List.length_map]
  split at h
  · cases h
  · rename_i h1
    rw [if_neg h1]
    split at h
    · cases h
    · rename_i s' hg
      have hg' := netG_src hf L net0 s' 0 hg
      rw [show (⟨net0.l.map f, net0.nodes, net0.br⟩ : NetS) = net0 from rfl] at hg'
      rw [hg']
      dsimp only
      split at h
      · cases h
      · rename_i h2
        rw [if_neg h2]
        cases h
        rfl
end
theorem cos_half : ∀ k : Fin 24, Op (some (cosB k.val)) (some (cosB ((k.val + 12) % 24))) := by
  have h : ∀ a b : Nat, (match Ieee.double.read a, Ieee.double.read b with | .number s m e, .number t n g => decide (m = n) && decide (e = g) && (decide (m = 0) || t == !s) | _, _ => false) = true → Op (some a) (some b) := by
    intro a b h
    show DOp _ _
    cases ha : Ieee.double.read a with
    | nan => rw [ha] at h; cases h
    | infinity => rw [ha] at h; cases h
    | number s m e =>
      cases hb : Ieee.double.read b with
      | nan => rw [ha, hb] at h; cases h
      | infinity => rw [ha, hb] at h; cases h
      | number t n g =>
        rw [ha, hb] at h
        simp only [Bool.and_eq_true, Bool.or_eq_true, decide_eq_true_eq, beq_iff_eq] at h
        exact ⟨h.1.1, h.1.2, h.2⟩
  intro k
  apply h
  revert k
  decide +kernel
theorem cos_fin : ∀ k : Fin 24, fin (val (cosB k.val)) = true := by decide +kernel
theorem cos_some : ∀ k : Fin 24, val (cosB k.val) = some (cosB k.val) := by decide +kernel
theorem turn_half (k : Int) : turnN (k.tmod 24 + 12) = (turnN k + 12) % 24 := by
  have h1 : -24 < k.tmod 24 := Int.lt_tmod_of_pos k (by decide)
  have h2 : k.tmod 24 < 24 := Int.tmod_lt_of_pos k (by decide)
  unfold turnN
  generalize k.tmod 24 = m at *
  have h3 : (m + 24).tmod 24 = (m + 24) % 24 := Int.tmod_eq_emod_of_nonneg (by omega)
  rcases Int.lt_or_le (m + 12) 0 with h | h
  · have h4 : (m + 12).tmod 24 = m + 12 := by
      have h5 : (m + 12).tmod 24 = -((-(m + 12)).tmod 24) := by rw [Int.neg_tmod, Int.neg_neg]
      rw [h5, Int.tmod_eq_emod_of_nonneg (by omega)]
      omega
    have h6 : (m + 12 + 24).tmod 24 = (m + 12 + 24) % 24 := Int.tmod_eq_emod_of_nonneg (by omega)
    rw [h4, h6, h3]
    omega
  · have h4 : (m + 12).tmod 24 = (m + 12) % 24 := Int.tmod_eq_emod_of_nonneg (by omega)
    have h6 : ((m + 12) % 24 + 24).tmod 24 = ((m + 12) % 24 + 24) % 24 := Int.tmod_eq_emod_of_nonneg (by omega)
    rw [h4, h6, h3]
    omega
theorem turn_lt (k : Int) : turnN k < 24 := by
  obtain ⟨r, hr, h, -⟩ := turn_facts k
  rw [← hr]
  exact h
theorem phas_op (v : Option Nat) (k : Int) : COp (phasF v k) (phasF v (k.tmod 24 + 12)) := by
  unfold phasF cscale cv
  rw [turn_half]
  have h1 := turn_lt k
  generalize turnN k = t at *
  have e1 := cos_half ⟨t, h1⟩
  have e2 := cos_half ⟨(t + 18) % 24, Nat.mod_lt _ (by decide)⟩
  have s1 := cos_some ⟨t, h1⟩
  have s2 := cos_some ⟨(t + 18) % 24, Nat.mod_lt _ (by decide)⟩
  have s3 := cos_some ⟨(t + 12) % 24, Nat.mod_lt _ (by decide)⟩
  have s4 := cos_some ⟨((t + 18) % 24 + 12) % 24, Nat.mod_lt _ (by decide)⟩
  dsimp only at e1 e2 s1 s2 s3 s4
  rw [show ((t + 12) % 24 + 18) % 24 = ((t + 18) % 24 + 12) % 24 by omega]
  dsimp only
  rw [s1, s2, s3, s4]
  exact ⟨e1.lmul v, e2.lmul v⟩
theorem phF_op (e : El) : COp (phF e) (phF (tE e)) := by
  unfold phF
  rw [src_t.k]
  split
  · rename_i h
    have he : tE e = { e with ph := e.ph.tmod 24 + 12 } := by unfold tE; rw [if_pos h]
    rw [he]
    exact phas_op _ _
  · exact cop_0
theorem phF_z (e : El) : CZ (phF (qE e)) := by
  unfold phF
  rw [src_q.k]
  split
  · rename_i h
    have he : qE e = { e with v := 0 } := by unfold qE; rw [if_pos h]
    rw [he]
    have h1 := turn_lt e.ph
    exact ⟨zr_0.mul (cos_fin ⟨turnN e.ph, h1⟩), zr_0.mul (cos_fin ⟨(turnN e.ph + 18) % 24, Nat.mod_lt _ (by decide)⟩)⟩
  · exact cz_0
theorem rigE_op (nodes br : List ByteArray) {x y : Nat → CV} (h : ∀ j, COp (x j) (y j)) (e : El) : (rigE nodes br x e).2 = (rigE nodes br y (tE e)).2 ∧ ∀ j, COp ((rigE nodes br x e).1 j) ((rigE nodes br y (tE e)).1 j) := by
  have hp := phF_op e
  unfold rigE
  rw [src_t.k, src_t.n, src_t.a, src_t.b]
  generalize phF e = p at hp
  generalize phF (tE e) = q at hp
  split
  · split
    · exact ⟨hp.fin, setX_op h hp⟩
    · have h1 : ∀ j, COp ((if hasS nodes e.a = true then setX x (plc nodes e.a) (csub (x (plc nodes e.a)) p) else x) j) ((if hasS nodes e.a = true then setX y (plc nodes e.a) (csub (y (plc nodes e.a)) q) else y) j) := by
        split
        · exact setX_op h ((h _).sub hp)
        · exact h
      dsimp only
      generalize (if hasS nodes e.a = true then setX x (plc nodes e.a) (csub (x (plc nodes e.a)) p) else x) = x1 at h1
      generalize (if hasS nodes e.a = true then setX y (plc nodes e.a) (csub (y (plc nodes e.a)) q) else y) = y1 at h1
      refine ⟨?_, ?_⟩
      · rw [((h1 (plc nodes e.b)).add hp).fin, ((h (plc nodes e.a)).sub hp).fin]
      · split
        · exact setX_op h1 ((h1 _).add hp)
        · exact h1
  · exact ⟨rfl, h⟩
theorem rigE_z (nodes br : List ByteArray) {x : Nat → CV} (h : ∀ j, CZ (x j)) (e : El) : (rigE nodes br x (qE e)).2 = true ∧ ∀ j, CZ ((rigE nodes br x (qE e)).1 j) := by
  have hp := phF_z e
  unfold rigE
  rw [src_q.k, src_q.n, src_q.a, src_q.b]
  generalize phF (qE e) = p at hp
  split
  · split
    · exact ⟨hp.fin, setX_z h hp⟩
    · have h1 : ∀ j, CZ ((if hasS nodes e.a = true then setX x (plc nodes e.a) (csub (x (plc nodes e.a)) p) else x) j) := by
        split
        · exact setX_z h ((h _).sub hp)
        · exact h
      dsimp only
      generalize (if hasS nodes e.a = true then setX x (plc nodes e.a) (csub (x (plc nodes e.a)) p) else x) = x1 at h1
      refine ⟨?_, ?_⟩
      · rw [((h1 (plc nodes e.b)).add hp).fin, ((h (plc nodes e.a)).sub hp).fin]
        simp
      · split
        · exact setX_z h1 ((h1 _).add hp)
        · exact h1
  · exact ⟨rfl, h⟩
theorem rigG_op (nodes br : List ByteArray) : ∀ (L : List El) (k : Nat) {x y : Nat → CV}, (∀ j, COp (x j) (y j)) → (rigG nodes br k x L).1 = (rigG nodes br k y (L.map tE)).1 ∧ ((rigG nodes br k x L).1.1 = 0 → ∀ j, COp ((rigG nodes br k x L).2 j) ((rigG nodes br k y (L.map tE)).2 j))
  | [], _, _, _, h => ⟨rfl, fun _ => h⟩
  | e :: r, k, x, y, h => by
    obtain ⟨h1, h2⟩ := rigE_op nodes br h e
    rw [List.map_cons]
    unfold rigG
    rw [← h1]
    split
    · exact rigG_op nodes br r (k + 1) h2
    · exact ⟨rfl, fun h => by cases h⟩
theorem rigG_z (nodes br : List ByteArray) : ∀ (L : List El) (k : Nat) {x : Nat → CV}, (∀ j, CZ (x j)) → (rigG nodes br k x (L.map qE)).1 = (0, 0) ∧ ∀ j, CZ ((rigG nodes br k x (L.map qE)).2 j)
  | [], _, _, h => ⟨rfl, h⟩
  | e :: r, k, x, h => by
    obtain ⟨h1, h2⟩ := rigE_z nodes br h e
    rw [List.map_cons]
    unfold rigG
    rw [if_pos h1]
    exact rigG_z nodes br r (k + 1) h2
theorem withF_ok {nodes br : List ByteArray} {L : List El} {x : Option Nat} {b : List CV} (h : (withF nodes br L x b).1.1 = 0) : askF x = 0 ∧ b.all cfin = true ∧ (wrkF nodes br L x).1.1 = 0 ∧ (solF (nodes.length + br.length) (wrkF nodes br L x).2.1 (wrkF nodes br L x).2.2.1 b).1 = 0 := by
  unfold withF at h
  by_cases h1 : askF x = 0
  · rw [if_neg (by simpa using h1)] at h
    by_cases h2 : b.all cfin = true
    · rw [if_neg (by simp [h2])] at h
      by_cases h3 : (wrkF nodes br L x).1.1 = 0
      · rw [if_neg (by simpa using h3)] at h
        by_cases h4 : (solF (nodes.length + br.length) (wrkF nodes br L x).2.1 (wrkF nodes br L x).2.2.1 b).1 = 0
        · exact ⟨h1, h2, h3, h4⟩
        · rw [if_pos h4] at h
          exact absurd h h4
      · rw [if_pos h3] at h
        exact absurd h h3
    · rw [if_pos (by simpa using h2)] at h
      cases h
  · rw [if_pos h1] at h
    exact absurd h h1
theorem withF_eq {nodes br : List ByteArray} {L : List El} {x : Option Nat} {b : List CV} (h1 : askF x = 0) (h2 : b.all cfin = true) (h3 : (wrkF nodes br L x).1.1 = 0) (h4 : (solF (nodes.length + br.length) (wrkF nodes br L x).2.1 (wrkF nodes br L x).2.2.1 b).1 = 0) : withF nodes br L x b = ((0, 0), (solF (nodes.length + br.length) (wrkF nodes br L x).2.1 (wrkF nodes br L x).2.2.1 b).2) := by
  unfold withF
  rw [if_neg (by simpa using h1), if_neg (by simp [h2]), if_neg (by simpa using h3), if_neg (by simpa using h4)]
theorem slvF_ok {nodes br : List ByteArray} {L : List El} {x : Option Nat} (h : (slvF nodes br L x).1.1 = 0) : (gndF nodes L).1 = 0 ∧ (matF nodes br L x).1.1 = 0 ∧ (rigF nodes br L).1.1 = 0 ∧ slvF nodes br L x = withF nodes br L x ((List.range (nodes.length + br.length)).map (rigF nodes br L).2) := by
  unfold slvF at h
  by_cases h1 : askF x = 0
  · rw [if_neg (by simpa using h1)] at h
    by_cases h2 : (gndF nodes L).1 = 0
    · rw [if_neg (by simpa using h2)] at h
      by_cases h3 : (matF nodes br L x).1.1 = 0
      · rw [if_neg (by simpa using h3)] at h
        by_cases h4 : (rigF nodes br L).1.1 = 0
        · refine ⟨h2, h3, h4, ?_⟩
          unfold slvF
          rw [if_neg (by simpa using h1), if_neg (by simpa using h2), if_neg (by simpa using h3), if_neg (by simpa using h4)]
        · rw [if_pos h4] at h
          exact absurd h h4
      · rw [if_pos h3] at h
        exact absurd h h3
    · rw [if_pos h2] at h
      exact absurd h h2
  · rw [if_pos h1] at h
    exact absurd h h1
theorem slvF_eq {nodes br : List ByteArray} {L : List El} {x : Option Nat} (h1 : askF x = 0) (h2 : (gndF nodes L).1 = 0) (h3 : (matF nodes br L x).1.1 = 0) (h4 : (rigF nodes br L).1.1 = 0) : slvF nodes br L x = withF nodes br L x ((List.range (nodes.length + br.length)).map (rigF nodes br L).2) := by
  unfold slvF
  rw [if_neg (by simpa using h1), if_neg (by simpa using h2), if_neg (by simpa using h3), if_neg (by simpa using h4)]
theorem range_getD (n : Nat) (f : Nat → CV) (j : Nat) : ((List.range n).map f).getD j (none, none) = if j < n then f j else (none, none) := by
  rw [List.getD_eq_getElem?_getD, List.getElem?_map]
  by_cases h : j < n
  · rw [List.getElem?_range h, if_pos h]; rfl
  · rw [List.getElem?_eq_none (by simpa using h), if_neg h]; rfl
theorem range_op (n : Nat) {f g : Nat → CV} (h : ∀ j, COp (f j) (g j)) : LOp ((List.range n).map f) ((List.range n).map g) := by
  refine ⟨by simp, fun j => ?_⟩
  rw [range_getD, range_getD]
  split
  · exact h j
  · exact ⟨trivial, trivial⟩
/-- What a solved net's numbers are: finite. -/
theorem slv_fin {nodes br : List ByteArray} {L : List El} {x : Option Nat} (h : (slvF nodes br L x).1.1 = 0) : ∀ j, j < nodes.length + br.length → cfin ((slvF nodes br L x).2 j) = true := by
  obtain ⟨-, -, -, e⟩ := slvF_ok h
  rw [e] at h ⊢
  obtain ⟨h1, h2, h3, h4⟩ := withF_ok h
  rw [withF_eq h1 h2 h3 h4]
  exact sol_fin _ _ _ h4
theorem slv_op {nodes br : List ByteArray} {L : List El} {x : Option Nat} (h : (slvF nodes br L x).1.1 = 0) : (slvF nodes br (L.map tE) x).1.1 = 0 ∧ ∀ j, COp ((slvF nodes br L x).2 j) ((slvF nodes br (L.map tE) x).2 j) := by
  obtain ⟨g1, g2, g3, e⟩ := slvF_ok h
  obtain ⟨r1, r2⟩ := rigG_op nodes br L 0 (x := fun _ => (val 0, val 0)) (y := fun _ => (val 0, val 0)) (fun _ => cop_0)
  replace r2 := r2 g3
  rw [e] at h ⊢
  obtain ⟨h1, h2, h3, h4⟩ := withF_ok h
  have hb : LOp ((List.range (nodes.length + br.length)).map (rigF nodes br L).2) ((List.range (nodes.length + br.length)).map (rigF nodes br (L.map tE)).2) := range_op _ r2
  obtain ⟨s1, s2⟩ := sol_op (nodes.length + br.length) (wrkF nodes br L x).2.1 (wrkF nodes br L x).2.2.1 hb
  have e' : slvF nodes br (L.map tE) x = withF nodes br (L.map tE) x ((List.range (nodes.length + br.length)).map (rigF nodes br (L.map tE)).2) := slvF_eq h1 (by rw [gndF_src src_t]; exact g1) (by rw [matF_src src_t]; exact g2) (by
    have : (rigF nodes br L).1 = (rigF nodes br (L.map tE)).1 := r1
    rw [← this]
    exact g3)
  rw [e', withF_eq h1 h2 h3 h4, withF_eq h1 (by rw [← hb.all]; exact h2) (by rw [wrkF_src src_t]; exact h3) (by rw [wrkF_src src_t, ← s1]; exact h4), wrkF_src src_t]
  exact ⟨rfl, s2 h4⟩
theorem slv_z {nodes br : List ByteArray} {L : List El} {x : Option Nat} (hn : nodes.length + br.length ≤ 64) (h : (slvF nodes br L x).1.1 = 0) : (slvF nodes br (L.map qE) x).1.1 = 0 ∧ ∀ j, CZ ((slvF nodes br (L.map qE) x).2 j) := by
  obtain ⟨g1, g2, g3, e⟩ := slvF_ok h
  obtain ⟨r1, r2⟩ := rigG_z nodes br L 0 (x := fun _ => (val 0, val 0)) (fun _ => cz_0)
  rw [e] at h
  obtain ⟨h1, h2, h3, h4⟩ := withF_ok h
  have hod : ∀ i, i < nodes.length + br.length → (wrkF nodes br L x).2.2.1 i < nodes.length + br.length := by
    unfold wrkF
    split
    · exact fun i hi => hi
    · split
      · exact fun i hi => hi
      · exact lowF_od hn
  obtain ⟨s1, s2⟩ := sol_zero (nodes.length + br.length) (wrkF nodes br L x).2.1 (wrkF nodes br L x).2.2.1 (b := (List.range (nodes.length + br.length)).map (rigF nodes br L).2) (c := (List.range (nodes.length + br.length)).map (rigF nodes br (L.map qE)).2) (by simp) (fun j hj => by
    rw [range_getD]
    rw [List.length_map, List.length_range] at hj
    rw [if_pos hj]
    exact r2 j) hod h4
  have e' : slvF nodes br (L.map qE) x = withF nodes br (L.map qE) x ((List.range (nodes.length + br.length)).map (rigF nodes br (L.map qE)).2) := slvF_eq h1 (by rw [gndF_src src_q]; exact g1) (by rw [matF_src src_q]; exact g2) (by
    show (rigG nodes br 0 (fun _ => (val 0, val 0)) (L.map qE)).1.1 = 0
    rw [r1])
  rw [e', withF_eq h1 (by
    rw [List.all_eq_true]
    intro z hz
    obtain ⟨j, -, rfl⟩ := List.mem_map.1 hz
    exact (r2 j).fin) (by rw [wrkF_src src_q]; exact h3) (by rw [wrkF_src src_q]; exact s1), wrkF_src src_q]
  exact ⟨rfl, s2⟩
/-- What solved tells: the net, the unknowns. -/
def svdF (L : List El) (x : Option Nat) : Option (NetS × (Nat → CV)) := match (netF L).2 with
  | none => none
  | some s => if (slvF s.nodes s.br s.l x).1.1 = 0 then some (s, (slvF s.nodes s.br s.l x).2) else none
theorem svdF_ok {L : List El} {x : Option Nat} {s : NetS} {g : Nat → CV} (h : svdF L x = some (s, g)) : netF L = ((0, 0), some s) ∧ s.l = L ∧ (slvF s.nodes s.br s.l x).1.1 = 0 ∧ g = (slvF s.nodes s.br s.l x).2 := by
  unfold svdF at h
  split at h
  · cases h
  · rename_i s' hs
    obtain ⟨f, o, hr⟩ : ∃ f o, netF L = (f, o) := ⟨_, _, rfl⟩
    rw [hr] at hs
    cases hs
    obtain ⟨rfl, hl⟩ := netF_some hr
    split at h
    · rename_i h1
      cases h
      exact ⟨hr, hl, h1, rfl⟩
    · cases h
theorem svdF_eq {L : List El} {x : Option Nat} {s : NetS} (h : netF L = ((0, 0), some s)) (h2 : (slvF s.nodes s.br s.l x).1.1 = 0) : svdF L x = some (s, (slvF s.nodes s.br s.l x).2) := by
  unfold svdF
  rw [h]
  dsimp only
  rw [if_pos h2]
/-- The law of TopTurned, plainly. -/
theorem svd_laws {L : List El} {x : Option Nat} {s : NetS} {g : Nat → CV} (h : svdF L x = some (s, g)) :
    (∀ j, j < s.nodes.length + s.br.length → cfin (g j) = true) ∧
    (∃ g', svdF (L.map tE) x = some (⟨L.map tE, s.nodes, s.br⟩, g') ∧ ∀ j, COp (g j) (g' j)) ∧
    (∃ g', svdF (L.map qE) x = some (⟨L.map qE, s.nodes, s.br⟩, g') ∧ ∀ j, CZ (g' j)) := by
  obtain ⟨h1, h2, h3, rfl⟩ := svdF_ok h
  obtain ⟨-, -, h64, -⟩ := netF_good h1
  have n1 := netF_src src_t h1
  have n2 := netF_src src_q h1
  obtain ⟨t1, t2⟩ := slv_op h3
  obtain ⟨q1, q2⟩ := slv_z h64 h3
  rw [h2] at n1 n2 t1 t2 q1 q2
  refine ⟨slv_fin h3, ⟨_, svdF_eq n1 t1, ?_⟩, ⟨_, svdF_eq n2 q1, q2⟩⟩
  rw [h2]
  exact t2
end Go.Proofs.Ytgcakhmdmajplaa

