/- What the chapter's named examples are made of: an element by kind, name and value; rows of noughts. No condition. -/
import Derived.Test.YtjpimgdmlieinaaDoorLv29
import Derived.Test.YtjpimgdmlieinaaDoorPol5
import Derived.OwnWalk
namespace Go.Proofs.YtjpimgdmlieinaaDoor
open Go.RowKit

/-- An element by kind, name and value. -/
def elO (k : Nat) (n : ByteArray) (v : Nat) : El := ⟨k, n, ⟨#[]⟩, ⟨#[]⟩, ⟨#[]⟩, ⟨#[]⟩, v, 0⟩
/-- A block that holds an element. -/
def ElB (w : World) (b : Nat) (e : El) : Prop := w.heap[b]? = some (.cells (elC e).toArray 30 (0, 0))
theorem ElB.cell {w : World} {b : Nat} {e : El} (h : ElB w b e) {j : Nat} {x : Value} (hx : (elC e)[j]? = some x) : w.cell? ⟨b, j, none⟩ = some x := by
  unfold ElB at h
  simp only [World.cell?, h]
  simpa using hx
theorem results_el {fn : Func} {p : Tmp} (h : fn.results = #[.cell p 30]) (tmps : Array Value) (w : World) (b : Nat) (e : El) (hp : tmps.getD p undef = .pointer (some ⟨b, 0, none⟩)) (hf : ElB w b e) :
    (results fn tmps).run Tryd.prog w = .ok (elV e) w := by
  have h0 := hf.cell (j := 0) rfl
  have h1 := hf.cell (j := 1) rfl
  have h2 := hf.cell (j := 2) rfl
  have h3 := hf.cell (j := 3) rfl
  have h4 := hf.cell (j := 4) rfl
  have h5 := hf.cell (j := 5) rfl
  have h6 := hf.cell (j := 6) rfl
  have h7 := hf.cell (j := 7) rfl
  simp only [Array.getD_eq_getD_getElem?] at hp ⊢
  simp [results, h, hp, go_sem, h0, h1, h2, h3, h4, h5, h6, h7, Sem.run_bind, Result.andThen, elV, elC]

set_option maxRecDepth 100000 in
set_option maxHeartbeats 1000000 in
theorem of_el (k : Nat) (n : ByteArray) (v : Nat) (w : World) : Calls Tryd.prog 11 #[.int .u8 k, .string n, .float .f64 v] w fun e w' => e = .returned (elV (elO k n v)) ∧ Below w.heap.size w w' := by
  go_enter Tryd.func11, Tryd.ntmps11
  go_wp2
  refine bodyPost_ret (results_el rfl _ _ w.heap.size (elO k n v) rfl (blk_new _ _)) rfl ?_
  exact ⟨rfl, (Below.refl _ w).alloc (Nat.le_refl _) _⟩

theorem step_make_full {P : Program} (w : World) {ops : Array Oper} {o : Oper} {a : Act} {K : Act → World → Prop} {Q : Exit → Act → World → Prop} {E : Prop}
    (hg : o.guard = none) (l c : Operand) (t : TypeId) (hop : o.op = Op.makeSlice t l c)
    (base : Nat) (e : TypeId) (i : TypeInfo) (z : Value) (size : Nat) (h1 : P.underlying t = some (.slice e)) (h2 : P.info? e = some i) (h3 : i.zero = some z) (h4 : i.size = size)
    (kl kc : IntKind) (L C : Int) (n : Nat) (hl : a.eval l = .int kl L) (hc : a.eval c = .int kc C) (hL : L = (n : Int)) (hC : C = (n : Int)) (b2 : i.bytes * n ≤ 281474976710656) (b3 : n ≤ maxLen) (b4 : base ≤ w.heap.size) (H : Nat) (hH : w.heap.size = H)
    (hK : ∀ w', w'.ownsRow base e size (.slice (some ⟨H, 0, none⟩) n n) n (madeCells z.cells (n * size)).toList → w.grownBy w' none → K (a.put o.dst (.slice (some ⟨H, 0, none⟩) n n)) w') :
    if Region.wanted o (yielded ops a.tmps) = true then Oper.wp P o a w K Q else E := by
  have hw : Region.wanted o (yielded ops a.tmps) = true := by simp [Region.wanted, hg]
  rw [if_pos hw]
  subst hH
  obtain ⟨w', hrun, r1, r2⟩ := run_make_full (P := P) w base t e i z size h1 h2 h3 h4 kl kc n b2 b3 b4
  subst hL
  subst hC
  unfold Oper.wp
  simp [execOp, hop, hl, hc, hrun, Result.andThen]
  exact hK w' r1 r2

/-! ### What the examples come to -/
def nmR : List El := [elO 1 ⟨#[82, 49]⟩ 4607182418800017408, elO 1 ⟨#[82, 51]⟩ 4607182418800017408]
def nmT : List El := [elO 1 ⟨#[82, 50]⟩ 4611686018427387904, elO 1 ⟨#[82, 52]⟩ 4611686018427387904]
def nmT1 : List El := [elO 1 ⟨#[82, 50]⟩ 4611686018427387904]
def nmT2 : List El := [elO 1 ⟨#[82, 50]⟩ 4611686018427387904, elO 4 ⟨#[73, 49]⟩ 4607182418800017408]
theorem aN0 : aN 0 = ⟨#[97, 48]⟩ := by unfold aN; rw [Lib.decDigits_one (by omega)]; rfl
theorem aN1 : aN 1 = ⟨#[97, 49]⟩ := by unfold aN; rw [Lib.decDigits_one (by omega)]; rfl
theorem aN2 : aN 2 = ⟨#[97, 50]⟩ := by unfold aN; rw [Lib.decDigits_one (by omega)]; rfl
def nmE : List El := [⟨1, ⟨#[82, 49]⟩, ⟨#[97, 48]⟩, ⟨#[97, 49]⟩, ⟨#[]⟩, ⟨#[]⟩, 4607182418800017408, 0⟩, ⟨1, ⟨#[82, 50]⟩, ⟨#[97, 49]⟩, ⟨#[48]⟩, ⟨#[]⟩, ⟨#[]⟩, 4611686018427387904, 0⟩, ⟨1, ⟨#[82, 51]⟩, ⟨#[97, 49]⟩, ⟨#[97, 50]⟩, ⟨#[]⟩, ⟨#[]⟩, 4607182418800017408, 0⟩, ⟨1, ⟨#[82, 52]⟩, ⟨#[97, 50]⟩, ⟨#[48]⟩, ⟨#[]⟩, ⟨#[]⟩, 4611686018427387904, 0⟩]
def nmE2 : List El := [⟨1, ⟨#[82, 49]⟩, ⟨#[97, 48]⟩, ⟨#[97, 49]⟩, ⟨#[]⟩, ⟨#[]⟩, 4607182418800017408, 0⟩, ⟨1, ⟨#[82, 50]⟩, ⟨#[97, 49]⟩, ⟨#[48]⟩, ⟨#[]⟩, ⟨#[]⟩, 4611686018427387904, 0⟩, ⟨1, ⟨#[82, 51]⟩, ⟨#[97, 49]⟩, ⟨#[97, 50]⟩, ⟨#[]⟩, ⟨#[]⟩, 4607182418800017408, 0⟩, ⟨4, ⟨#[73, 49]⟩, ⟨#[97, 50]⟩, ⟨#[48]⟩, ⟨#[]⟩, ⟨#[]⟩, 4607182418800017408, 0⟩]
theorem nmA : ladN nmR nmT 2 = nmE := by simp [ladN, ladE, ladS, nmR, nmT, elO, nmE, aN0, aN1, aN2]
theorem nmA2 : ladN nmR nmT2 2 = nmE2 := by simp [ladN, ladE, ladS, nmR, nmT2, elO, nmE2, aN0, aN1, aN2]
theorem nmB : (netF nmE).1 = (0, 0) := by decide +kernel
theorem nmB2 : (netF nmE2).1 = (0, 0) := by decide +kernel
theorem nmC : inN nmE 2 (val 4607182418800017408) 2 (val 0, val 0) = ((some 4612136378390124954, some 0), (0, 0)) := by decide +kernel
theorem nmC2 : inN nmE2 2 (val 4607182418800017408) 2 (val 0, val 0) = ((some 0, some 0), (2, 1)) := by decide +kernel
theorem nmOm : aboveE (val 4607182418800017408) = 0 := by decide +kernel
theorem nmIn : inF nmR nmT (val 4607182418800017408) = ((some 4612136378390124954, some 0), (0, 0)) := by
  have hn : (ladNetF nmR nmT).1 = (0, 0) := by
    show (netF (ladN nmR nmT 2)).1 = _
    rw [nmA]
    exact nmB
  unfold inF
  rw [if_pos nmOm, if_pos hn]
  show inN (ladN nmR nmT 2) 2 _ 2 _ = _
  rw [nmA]
  exact nmC
theorem nmIn2 : inF nmR nmT2 (val 4607182418800017408) = ((some 0, some 0), (2, 1)) := by
  have hn : (ladNetF nmR nmT2).1 = (0, 0) := by
    show (netF (ladN nmR nmT2 2)).1 = _
    rw [nmA2]
    exact nmB2
  unfold inF
  rw [if_pos nmOm, if_pos hn]
  show inN (ladN nmR nmT2 2) 2 _ 2 _ = _
  rw [nmA2]
  exact nmC2
theorem nmW : (∀ e ∈ nmR, e.kind < 256 ∧ IsW e.v) ∧ (∀ e ∈ nmT, e.kind < 256 ∧ IsW e.v) ∧ (∀ e ∈ nmT2, e.kind < 256 ∧ IsW e.v) ∧ (∀ e ∈ nmT1, e.kind < 256) := by unfold IsW; decide +kernel
theorem nm_In (v v' : Value) (w : World) (hs : ElsAt w v nmR) (hs' : ElsAt w v' nmT) : Calls Tryd.prog 13 #[v, v', .float .f64 4607182418800017408] w (RetIn w ((some 4612136378390124954, some 0), (0, 0))) := by
  have := Input_any nmR nmT nmW.1 nmW.2.1 4607182418800017408 v v' w hs hs'
  rw [nmIn] at this
  exact this
theorem nm_In2 (v v' : Value) (w : World) (hs : ElsAt w v nmR) (hs' : ElsAt w v' nmT2) : Calls Tryd.prog 13 #[v, v', .float .f64 4607182418800017408] w (RetIn w ((some 0, some 0), (2, 1))) := by
  have := Input_any nmR nmT2 nmW.1 nmW.2.2.1 4607182418800017408 v v' w hs hs'
  rw [nmIn2] at this
  exact this
def RetNo (w : World) (e : Int) (E : Ending) (w' : World) : Prop := E = .returned (.tuple #[.pointer none, .agg #[.int .i64 e, .int .i64 (-1)]]) ∧ Below w.heap.size w w'
theorem nm_Net1 (v v' : Value) (w : World) (hs : ElsAt w v nmR) (hs' : ElsAt w v' nmT1) : Calls Tryd.prog 16 #[v, v'] w (RetNo w 4) := by
  have := LNet_any nmR nmT1 (fun e he => (nmW.1 e he).1) nmW.2.2.2 v v' w hs hs'
  exact this
theorem ElsAt.none (w : World) : ElsAt w (.slice none 0 0) [] := ⟨_, _, rfl, fun k e h => by simp at h⟩
theorem nm_Net0 (w : World) : Calls Tryd.prog 16 #[.slice none 0 0, .slice none 0 0] w (RetNo w 2) := by
  have := LNet_any [] [] (fun e he => by cases he) (fun e he => by cases he) _ _ w (ElsAt.none w) (ElsAt.none w)
  exact this
theorem nm_Net17 (v v' : Value) (w : World) (hs : ElsAt w v (List.replicate 17 el0)) (hs' : ElsAt w v' (List.replicate 17 el0)) : Calls Tryd.prog 16 #[v, v'] w (RetNo w 3) := by
  have hk : ∀ e ∈ List.replicate 17 el0, e.kind < 256 := by
    intro e he
    rw [List.eq_of_mem_replicate he]
    decide
  have := LNet_any _ _ hk hk v v' w hs hs'
  exact this
theorem nm_Pl (v v' : Value) (w : World) (hs : Sl w v (lvQ.map C)) (hs' : Sl w v' ([(4617315517961601024, 0)].map C)) : Calls Tryd.prog 29 #[v, v'] w (RetPoly w ([(some 4618441417868443648, some 0), (some 4607182418800017408, some 0)], 0)) := by
  have hw1 : wfP lvQ := by
    have : ∀ z ∈ lvQ, IsW z.1 ∧ IsW z.2 := by unfold IsW; decide +kernel
    exact fun k z hz => this z (List.mem_of_getElem? hz)
  have hw2 : wfP [(4617315517961601024, 0)] := by
    have : ∀ z ∈ [((4617315517961601024, 0) : Z)], IsW z.1 ∧ IsW z.2 := by unfold IsW; decide +kernel
    exact fun k z hz => this z (List.mem_of_getElem? hz)
  have := Plus_any lvQ [(4617315517961601024, 0)] hw1 hw2 v v' w hs hs' (by decide) (by decide)
  rw [show plusR lvQ [(4617315517961601024, 0)] = ([(some 4618441417868443648, some 0), (some 4607182418800017408, some 0)], 0) by decide +kernel] at this
  exact this
def nmD : List Z := [(4619567317775286272, 0), (4607182418800017408, 0), (4613937818241073152, 0)]
theorem nm_De (v : Value) (w : World) (hs : Sl w v (nmD.map C)) : Calls Tryd.prog 33 #[v] w (RetPoly w ([(some 4607182418800017408, some 0), (some 4618441417868443648, some 0)], 0)) := by
  have := Derived_any nmD v w hs (by decide)
  rw [show derR nmD = ([(some 4607182418800017408, some 0), (some 4618441417868443648, some 0)], 0) by decide +kernel] at this
  exact this
def nmN : List Z := [(13835058055282163712, 0), (0, 0), (4607182418800017408, 0)]
theorem nm_Nw (v : Value) (w : World) (hs : Sl w v (nmN.map C)) : Calls Tryd.prog 43 #[v, .complex .f64 4607182418800017408 0, .int .i64 1] w (RetNw w ((some 4609434218613702656, some 0), 1, 0)) := by
  have hw1 : wfP nmN := by
    have : ∀ z ∈ nmN, IsW z.1 ∧ IsW z.2 := by unfold IsW; decide +kernel
    exact fun k z hz => this z (List.mem_of_getElem? hz)
  have := Newton_any nmN hw1 4607182418800017408 0 (by unfold IsW; decide) isW_0 1 v w hs (by decide)
  rw [show newR nmN (cv 4607182418800017408 0) 1 = ((some 4609434218613702656, some 0), 1, 0) by decide +kernel] at this
  exact this
theorem nm_Nw2 (v : Value) (w : World) (hs : Sl w v ([(4607182418800017408, 0)].map C)) : Calls Tryd.prog 43 #[v, .complex .f64 0 0, .int .i64 4097] w (RetNw w ((some 0, some 0), 0, 2)) := by
  have hw1 : wfP [(4607182418800017408, 0)] := by
    have : ∀ z ∈ [((4607182418800017408, 0) : Z)], IsW z.1 ∧ IsW z.2 := by unfold IsW; decide +kernel
    exact fun k z hz => this z (List.mem_of_getElem? hz)
  have := Newton_any [(4607182418800017408, 0)] hw1 0 0 isW_0 isW_0 4097 v w hs (by decide)
  rw [show newR [(4607182418800017408, 0)] (cv 0 0) 4097 = ((some 0, some 0), 0, 2) by decide +kernel] at this
  exact this
/-- Two numbers told, held against two. -/
theorem nm_Eq {a b : Z} {ca cb : CV} (l : List Z) (v v' : Value) (w : World) (hs : Sl w v (l.map C)) (hs' : Sl w v' ([a, b].map C)) (h : l.map zv = [ca, cb]) (h1 : (feq ca.1 (val a.1) && feq ca.2 (val a.2)) = true) (h2 : (feq cb.1 (val b.1) && feq cb.2 (val b.2)) = true) : Calls Tryd.prog 46 #[v, v'] w (RetB w true) := by
  match l, h with
  | [x, y], h =>
    simp at h
    obtain ⟨rfl, rfl⟩ := h
    have := EqualNumbers_any [x, y] [a, b] v v' w hs hs' (by simp)
    have e : equalL [x, y] [a, b] = true := by
      unfold equalL
      simp only [List.length_cons, List.length_nil, List.range, List.range.loop, List.all_cons, List.all_nil, Bool.and_true]
      have e1 : eqZ x a = true := h1
      have e2 : eqZ y b = true := h2
      simp [e1, e2]
    rw [e] at this
    exact this
def z0L (n : Nat) : List Z := List.replicate n (0, 0)
theorem pz_z0 (n i : Nat) : pz (z0L n) i = Z0 := by
  unfold pz z0L
  rw [List.getD_eq_getElem?_getD]
  by_cases h : i < n
  · rw [List.getElem?_replicate, if_pos h]; rfl
  · rw [List.getElem?_eq_none (by rw [List.length_replicate]; omega)]; rfl
theorem z0_mul : cadd Z0 (cmul Z0 Z0) = Z0 := by decide +kernel
theorem timA_z0 (n m k : Nat) : ∀ i, timA (z0L n) (z0L m) k i = Z0 := by
  intro i
  induction i with
  | zero => rfl
  | succ i ih =>
    rw [timA]
    split
    · rw [ih, pz_z0, pz_z0, z0_mul]
    · exact ih
theorem pf_z0 (n : Nat) : pf (z0L n) = true := by
  unfold pf z0L
  rw [List.all_eq_true]
  intro z hz
  rw [List.eq_of_mem_replicate hz]
  decide +kernel
theorem z0_len (n : Nat) : (z0L n).length = n := List.length_replicate
theorem nm_tim1 : timR (z0L 129) (z0L 129) = ([], 3) := by
  unfold timR bothE
  rw [z0_len, pf_z0]
  simp
theorem nm_tim2 : (timR (z0L 128) (z0L 129)).2 = 0 := by
  unfold timR bothE
  rw [z0_len, z0_len, pf_z0, pf_z0]
  rw [if_pos (by decide), if_neg (by omega), if_neg (by omega)]
  unfold tol
  rw [if_pos]
  · unfold timV
    rw [List.all_eq_true]
    intro c hc
    obtain ⟨k, _, rfl⟩ := List.mem_map.1 hc
    rw [timA_z0]
    decide +kernel
theorem pair_z {A : Type} {p : A × Int} (h : p.2 = 0) : p = (p.1, 0) := by
  obtain ⟨a, b⟩ := p
  subst h
  rfl
theorem nm_Ti1 (v v' : Value) (w : World) (hs : Sl w v ((z0L 129).map C)) (hs' : Sl w v' ((z0L 129).map C)) : Calls Tryd.prog 31 #[v, v'] w (RetPoly w ([], 3)) := by
  have := Times_any (z0L 129) (z0L 129) v v' w hs hs' (by rw [z0_len]; omega) (by rw [z0_len]; omega)
  rw [nm_tim1] at this
  exact this
theorem nm_Ti2 (v v' : Value) (w : World) (hs : Sl w v ((z0L 128).map C)) (hs' : Sl w v' ((z0L 129).map C)) : Calls Tryd.prog 31 #[v, v'] w (RetPoly w ((timR (z0L 128) (z0L 129)).1, 0)) := by
  have := Times_any (z0L 128) (z0L 129) v v' w hs hs' (by rw [z0_len]; omega) (by rw [z0_len]; omega)
  rw [show timR (z0L 128) (z0L 129) = ((timR (z0L 128) (z0L 129)).1, 0) from pair_z nm_tim2] at this
  exact this
theorem nm_At (v : Value) (w : World) (hs : Sl w v ((z0L 257).map C)) : Calls Tryd.prog 27 #[v, .complex .f64 0 0] w (RetCE w (some 0, some 0) 3) := by
  have hw1 : wfP (z0L 257) := by
    intro k z hz
    rw [List.eq_of_mem_replicate (List.mem_of_getElem? hz)]
    exact ⟨isW_0, isW_0⟩
  have he : atE (z0L 257) (cv 0 0) = 3 := by
    unfold atE refE
    rw [z0_len]
    simp
  have hg : atG (z0L 257) (cv 0 0) = (some 0, some 0) := by
    unfold atG
    rw [he]
    rfl
  have hl : (z0L 257).length ≤ 140737488355328 := Nat.le_trans (Nat.le_of_eq (z0_len 257)) (by omega)
  have := At_any (z0L 257) hw1 0 0 v w hs hl
  rw [he, hg] at this
  exact this
/-- Rows of noughts that are made. -/
theorem Sl_made {w w' : World} {n : Nat} (h : w'.ownsRow w.heap.size 33 1 (.slice (some ⟨w.heap.size, 0, none⟩) n n) n (madeCells (Value.complex .f64 0 0).cells (n * 1)).toList) : Sl w' (.slice (some ⟨w.heap.size, 0, none⟩) n n) ((z0L n).map C) := by
  have := Sl.of_owns h
  rw [Nat.mul_one, show (Value.complex FloatKind.f64 0 0).cells = #[.complex .f64 0 0] from rfl, toList_madeCells_one] at this
  unfold z0L
  rw [List.map_replicate]
  exact this
end Go.Proofs.YtjpimgdmlieinaaDoor
