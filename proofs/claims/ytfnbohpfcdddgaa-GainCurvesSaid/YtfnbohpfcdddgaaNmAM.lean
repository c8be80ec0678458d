/- What the chapter's named examples are made of: an element by kind, name and value; rows of noughts. No condition. Rows of noughts that are made, as a fact of every world; worlds that grow. No condition. -/
import Derived.Test.YtfnbohpfcdddgaaPol1M
import Derived.OwnWalk
import Derived.Deep.OwnRows
namespace Go.Proofs.Ytfnbohpfcdddgaa
open Go.RowKit

/-- An element by kind, name and value. -/
def elO (k : Nat) (n : ByteArray) (v : Nat) : El := ⟨k, n, ⟨#[]⟩, ⟨#[]⟩, ⟨#[]⟩, ⟨#[]⟩, v, 0⟩
/-- A block that holds an element. -/
def ElB (w : World) (b : Nat) (e : El) : Prop := w.heap[b]? = some (.cells (elC e).toArray 74 (0, 0))
theorem ElB.cell {w : World} {b : Nat} {e : El} (h : ElB w b e) {j : Nat} {x : Value} (hx : (elC e)[j]? = some x) : w.cell? ⟨b, j, none⟩ = some x := by
  unfold ElB at h
  simp only [World.cell?, h]
  simpa using hx
theorem results_el {fn : Func} {p : Tmp} (h : fn.results = #[.cell p 74]) (tmps : Array Value) (w : World) (b : Nat) (e : El) (hp : tmps.getD p undef = .pointer (some ⟨b, 0, none⟩)) (hf : ElB w b e) :
    (results fn tmps).run Try.prog w = .ok (elV e) w := by
  have h0 := hf.cell (j := 0) rfl
  have h1 := hf.cell (j := 1) rfl
  have h2 := hf.cell (j := 2) rfl
  have h3 := hf.cell (j := 3) rfl
  have h4 := hf.cell (j := 4) rfl
  have h5 := hf.cell (j := 5) rfl
  have h6 := hf.cell (j := 6) rfl
  have h7 := hf.cell (j := 7) rfl
  simp only [Array.getD_eq_getD_getElem?] at hp ⊢
  simp [results, h, hp, go_sem, h0, h1, h2, h3, h4, h5, h6, h7, Sem.run_bind, Result.andThen, elV, elC]

theorem step_make_full {P : Program} (w : World) {ops : Array Oper} {o : Oper} {a : Act} {K : Act → World → Prop} {Q : Exit → Act → World → Prop} {E : Prop}
    (hg : o.guard = none) (l c : Operand) (t : TypeId) (hop : o.op = Op.makeSlice t l c)
    (base : Nat) (e : TypeId) (i : TypeInfo) (z : Value) (size : Nat) (h1 : P.underlying t = some (.slice e)) (h2 : P.info? e = some i) (h3 : i.zero = some z) (h4 : i.size = size)
    (kl kc : IntKind) (L C : Int) (n : Nat) (hl : a.eval l = .int kl L) (hc : a.eval c = .int kc C) (hL : L = (n : Int)) (hC : C = (n : Int)) (b2 : i.bytes * n ≤ 281474976710656) (b3 : n ≤ maxLen) (b4 : base ≤ w.heap.size) (H : Nat) (hH : w.heap.size = H)
    (hK : ∀ w', w'.ownsRow base e size (.slice (some ⟨H, 0, none⟩) n n) n (madeCells z.cells (n * size)).toList → w.grownBy w' none → K (a.put o.dst (.slice (some ⟨H, 0, none⟩) n n)) w') :
    if Region.wanted o (yielded ops a.tmps) = true then Oper.wp P o a w K Q else E := by
  have hw : Region.wanted o (yielded ops a.tmps) = true := by simp [Region.wanted, hg]
  rw [if_pos hw]
  subst hH
  obtain ⟨w', hrun, r1, r2⟩ := run_make_full (P := P) w base t e i z size h1 h2 h3 h4 kl kc n b2 b3 b4
  subst hL
  subst hC
  unfold Oper.wp
  simp [execOp, hop, hl, hc, hrun, Result.andThen]
  exact hK w' r1 r2

/-! ### What the examples come to -/
def nmR : List El := [elO 1 ⟨#[82, 49]⟩ 4607182418800017408, elO 1 ⟨#[82, 51]⟩ 4607182418800017408]
def nmT : List El := [elO 1 ⟨#[82, 50]⟩ 4611686018427387904, elO 1 ⟨#[82, 52]⟩ 4611686018427387904]
def nmT1 : List El := [elO 1 ⟨#[82, 50]⟩ 4611686018427387904]
def nmT2 : List El := [elO 1 ⟨#[82, 50]⟩ 4611686018427387904, elO 4 ⟨#[73, 49]⟩ 4607182418800017408]
def nmE : List El := [⟨1, ⟨#[82, 49]⟩, ⟨#[97, 48]⟩, ⟨#[97, 49]⟩, ⟨#[]⟩, ⟨#[]⟩, 4607182418800017408, 0⟩, ⟨1, ⟨#[82, 50]⟩, ⟨#[97, 49]⟩, ⟨#[48]⟩, ⟨#[]⟩, ⟨#[]⟩, 4611686018427387904, 0⟩, ⟨1, ⟨#[82, 51]⟩, ⟨#[97, 49]⟩, ⟨#[97, 50]⟩, ⟨#[]⟩, ⟨#[]⟩, 4607182418800017408, 0⟩, ⟨1, ⟨#[82, 52]⟩, ⟨#[97, 50]⟩, ⟨#[48]⟩, ⟨#[]⟩, ⟨#[]⟩, 4611686018427387904, 0⟩]
def nmE2 : List El := [⟨1, ⟨#[82, 49]⟩, ⟨#[97, 48]⟩, ⟨#[97, 49]⟩, ⟨#[]⟩, ⟨#[]⟩, 4607182418800017408, 0⟩, ⟨1, ⟨#[82, 50]⟩, ⟨#[97, 49]⟩, ⟨#[48]⟩, ⟨#[]⟩, ⟨#[]⟩, 4611686018427387904, 0⟩, ⟨1, ⟨#[82, 51]⟩, ⟨#[97, 49]⟩, ⟨#[97, 50]⟩, ⟨#[]⟩, ⟨#[]⟩, 4607182418800017408, 0⟩, ⟨4, ⟨#[73, 49]⟩, ⟨#[97, 50]⟩, ⟨#[48]⟩, ⟨#[]⟩, ⟨#[]⟩, 4607182418800017408, 0⟩]
theorem nmB : (netF nmE).1 = (0, 0) := by decide +kernel
theorem nmB2 : (netF nmE2).1 = (0, 0) := by decide +kernel
theorem nmC : inN nmE 2 (val 4607182418800017408) 2 (val 0, val 0) = ((some 4612136378390124954, some 0), (0, 0)) := by decide +kernel
theorem nmC2 : inN nmE2 2 (val 4607182418800017408) 2 (val 0, val 0) = ((some 0, some 0), (2, 1)) := by decide +kernel
theorem nmOm : aboveE (val 4607182418800017408) = 0 := by decide +kernel
theorem nmW : (∀ e ∈ nmR, e.kind < 256 ∧ IsW e.v) ∧ (∀ e ∈ nmT, e.kind < 256 ∧ IsW e.v) ∧ (∀ e ∈ nmT2, e.kind < 256 ∧ IsW e.v) ∧ (∀ e ∈ nmT1, e.kind < 256) := by unfold IsW; decide +kernel
def RetNo (w : World) (e : Int) (E : Ending) (w' : World) : Prop := E = .returned (.tuple #[.pointer none, .agg #[.int .i64 e, .int .i64 (-1)]]) ∧ Below w.heap.size w w'
theorem ElsAt.none (w : World) : ElsAt w (.slice none 0 0) [] := ⟨_, _, rfl, fun k e h => by simp at h⟩
def nmD : List Z := [(4619567317775286272, 0), (4607182418800017408, 0), (4613937818241073152, 0)]
def nmN : List Z := [(13835058055282163712, 0), (0, 0), (4607182418800017408, 0)]
def z0L (n : Nat) : List Z := List.replicate n (0, 0)
theorem pz_z0 (n i : Nat) : pz (z0L n) i = Z0 := by
  unfold pz z0L
  rw [List.getD_eq_getElem?_getD]
  by_cases h : i < n
  · rw [List.getElem?_replicate, if_pos h]; rfl
  · rw [List.getElem?_eq_none (by rw [List.length_replicate]; omega)]; rfl
theorem z0_mul : cadd Z0 (cmul Z0 Z0) = Z0 := by decide +kernel
theorem timA_z0 (n m k : Nat) : ∀ i, timA (z0L n) (z0L m) k i = Z0 := by
  intro i
  induction i with
  | zero => rfl
  | succ i ih =>
    rw [timA]
    split
    · rw [ih, pz_z0, pz_z0, z0_mul]
    · exact ih
theorem pf_z0 (n : Nat) : pf (z0L n) = true := by
  unfold pf z0L
  rw [List.all_eq_true]
  intro z hz
  rw [List.eq_of_mem_replicate hz]
  decide +kernel
theorem z0_len (n : Nat) : (z0L n).length = n := List.length_replicate
theorem nm_tim1 : timR (z0L 129) (z0L 129) = ([], 3) := by
  unfold timR bothE
  rw [z0_len, pf_z0]
  simp
theorem nm_tim2 : (timR (z0L 128) (z0L 129)).2 = 0 := by
  unfold timR bothE
  rw [z0_len, z0_len, pf_z0, pf_z0]
  rw [if_pos (by decide), if_neg (by omega), if_neg (by omega)]
  unfold tol
  rw [if_pos]
  · unfold timV
    rw [List.all_eq_true]
    intro c hc
    obtain ⟨k, _, rfl⟩ := List.mem_map.1 hc
    rw [timA_z0]
    decide +kernel
theorem pair_z {A : Type} {p : A × Int} (h : p.2 = 0) : p = (p.1, 0) := by
  obtain ⟨a, b⟩ := p
  subst h
  rfl
/-- Rows of noughts that are made. -/
theorem Sl_made {w w' : World} {n : Nat} (h : w'.ownsRow w.heap.size 63 1 (.slice (some ⟨w.heap.size, 0, none⟩) n n) n (madeCells (Value.complex .f64 0 0).cells (n * 1)).toList) : Sl w' (.slice (some ⟨w.heap.size, 0, none⟩) n n) ((z0L n).map C) := by
  have := Sl.of_owns h
  rw [Nat.mul_one, show (Value.complex FloatKind.f64 0 0).cells = #[.complex .f64 0 0] from rfl, toList_madeCells_one] at this
  unfold z0L
  rw [List.map_replicate]
  exact this
end Go.Proofs.Ytfnbohpfcdddgaa

namespace Go.Proofs.Ytfnbohpfcdddgaa
open Go.RowKit

theorem make_z (n : Nat) (q : Int) (hq : q = (n : Int)) (hn : n ≤ 1000) : ∃ o : Obj, (∀ w : World, (Instr.makeSlice 41 (.int .i64 q) (.int .i64 q)).run Try.prog w = .ok (.slice (some ⟨w.heap.size, 0, none⟩) n n) (w.alloc o)) ∧ ∀ w : World, Sl (w.alloc o) (.slice (some ⟨w.heap.size, 0, none⟩) n n) ((z0L n).map C) := by
  subst hq
  have hi : (Try.prog.info? 63).map (fun i => (i.zero, i.size, i.bytes)) = some (some (.complex .f64 0 0), 1, 16) := by kernel_rfl
  refine ⟨.cells (madeCells #[.complex .f64 0 0] n) 63, fun w => run_make_row' (P := Try.prog) 41 63 (.complex .f64 0 0) 16 Try.underlying41 hi rfl .i64 .i64 n (by omega) (by omega) w, fun w => ?_⟩
  have h := Sl_lit w 63 ((z0L n).map C)
  have e : ((z0L n).map C).toArray = madeCells #[.complex .f64 0 0] n := by
    apply Array.ext'
    rw [toList_madeCells_one]
    unfold z0L
    rw [List.map_replicate]
    rfl
  rw [e, List.length_map, z0_len] at h
  exact h
theorem madeCells_get {z : Array Value} {n i : Nat} (h : i < n) : (madeCells z n)[i]? = some (z[i % z.size]!) := by
  unfold madeCells
  rw [Array.getElem?_map, Array.getElem?_range, if_pos h]
  rfl
theorem make_e : ∃ o : Obj, (∀ w : World, (Instr.makeSlice 26 (.int .i64 17) (.int .i64 17)).run Try.prog w = .ok (.slice (some ⟨w.heap.size, 0, none⟩) 17 17) (w.alloc o)) ∧ ∀ w : World, ElsAt (w.alloc o) (.slice (some ⟨w.heap.size, 0, none⟩) 17 17) (List.replicate 17 el0) := by
  obtain ⟨i, hi, h0, h1, h2⟩ := info_parts info_el
  refine ⟨.cells (madeCells (elC el0).toArray 136) 74, fun w => ?_, fun w => ?_⟩
  · have := run_make (P := Try.prog) (w := w) 26 74 i _ Try.underlying26 hi h0 .i64 .i64 17 17 (by omega) (by omega) (by rw [h2]; omega) (by omega)
    rw [h1] at this
    exact this
  · refine ⟨some ⟨w.heap.size, 0, none⟩, 17, by rw [List.length_replicate], fun k e he => ⟨w.heap.size, 0, rfl, fun j x hx => ?_⟩⟩
    have hk : k < 17 := by have := (List.getElem?_eq_some_iff.1 he).1; rw [List.length_replicate] at this; exact this
    have hj : j < 8 := (List.getElem?_eq_some_iff.1 hx).1
    rw [List.getElem?_replicate, if_pos hk] at he
    cases he
    rw [World.cell?_alloc_new, madeCells_get (by omega), show (elC el0).toArray.size = 8 from rfl, show (0 + k * 8 + j) % 8 = j by omega]
    rw [getElem!_pos (elC el0).toArray j (by exact hj)]
    obtain ⟨_, hx2⟩ := List.getElem?_eq_some_iff.1 hx
    rw [← hx2]
    rfl
theorem bl2 {a b c : World} (h : Below a.heap.size a b) (h2 : Below b.heap.size b c) : Below a.heap.size a c := h.trans (h2.mono h.size)
theorem bla {a b : World} (o : Obj) (h : Below a.heap.size a b) : Below a.heap.size a (b.alloc o) := h.alloc h.size o
theorem bld {a b : World} (h : Below a.heap.size a b) : Below a.heap.size a b.drew := h.drew
theorem bls {a b : World} {p : Addr} {v : Value} (h : Below a.heap.size a b) (hp : a.heap.size ≤ p.block) : Below a.heap.size a (b.setCell p v) := h.setCell hp v
theorem flt_b {a c : World} {b : Nat} {x y : Int} (h : FltAt a b x y) (hb : Below a.heap.size a c) : FltAt c b x y := h.below hb h.lt
theorem flt_a {a : World} {b : Nat} {x y : Int} (o : Obj) (h : FltAt a b x y) : FltAt (a.alloc o) b x y := flt_b h (bla o (Below.refl _ _))
theorem flt_d {a : World} {b : Nat} {x y : Int} (h : FltAt a b x y) : FltAt a.drew b x y := h
theorem flt_n (a : World) {s : Nat} (x y : Int) (h : s = a.heap.size) : FltAt (a.alloc (.cells #[.int .i64 x, .int .i64 y] 31)) s x y := by
  subst h
  exact FltAt.new a x y
theorem els_a {a : World} {v : Value} {L : List El} (o : Obj) (h : ElsAt a v L) : ElsAt (a.alloc o) v L := h.below (bla o (Below.refl _ _))
theorem sl_a {a : World} {v : Value} {L : List Value} (o : Obj) (h : Sl a v L) : Sl (a.alloc o) v L := h.below (bla o (Below.refl _ _))
theorem els_d {a : World} {v : Value} {L : List El} (h : ElsAt a v L) : ElsAt a.drew v L := h.below (bld (Below.refl _ _))
theorem sl_d {a : World} {v : Value} {L : List Value} (h : Sl a v L) : Sl a.drew v L := h.below (bld (Below.refl _ _))
def TCells (w : World) (b : Nat) (e : El) : Prop := b < w.heap.size ∧ w.cell? ⟨b, 0, none⟩ = some (.int .u8 e.kind) ∧ w.cell? ⟨b, 1, none⟩ = some (.string e.name) ∧ w.cell? ⟨b, 2, none⟩ = some (.string e.a) ∧ w.cell? ⟨b, 3, none⟩ = some (.string e.b) ∧ w.cell? ⟨b, 4, none⟩ = some (.string e.c) ∧ w.cell? ⟨b, 5, none⟩ = some (.string e.d) ∧ w.cell? ⟨b, 6, none⟩ = some (.float .f64 e.v) ∧ w.cell? ⟨b, 7, none⟩ = some (.int .i64 e.ph)
theorem tcells {w : World} {b n cap : Nat} {e : El} {l : List El} (h : ElsAt w (.slice (some ⟨b, 0, none⟩) n cap) (e :: l)) : TCells w b e := by
  obtain ⟨a, cap, he, hr⟩ := h
  obtain ⟨b', off, hb, hc⟩ := hr 0 e rfl
  simp only [Value.slice.injEq] at he
  obtain ⟨he, -, -⟩ := he
  rw [← he] at hb
  simp only [Option.some.injEq, Addr.mk.injEq, and_true] at hb
  obtain ⟨rfl, rfl⟩ := hb
  exact ⟨World.block_lt_of_cell? _ _ (hc 0 _ rfl), hc 0 _ rfl, hc 1 _ rfl, hc 2 _ rfl, hc 3 _ rfl, hc 4 _ rfl, hc 5 _ rfl, hc 6 _ rfl, hc 7 _ rfl⟩
end Go.Proofs.Ytfnbohpfcdddgaa
