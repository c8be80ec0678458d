/- The tables of reading, out of the row's listed variables. The tables of the slow way of reading, out of the row's listed variables; the error that strconv tells. No condition. strconv.ParseFloat in general: the nearest word, and an error beyond all finite ones. Conditions: the text is digits with at most one point, an e, an exponent's digits; the tables lie there. -/
import Derived.Test.YtfalbdlfopfgcaaGreatDoorPeM
import Derived.Test.YtfalbdlfopfgcaaGreatDoorRows
import Derived.Lib.LaidU8
import Derived.Lib.LaidTab
import Derived.Test.YtfalbdlfopfgcaaGreatDoorSq
import Derived.Deep.Strs
import Derived.Test.YtfalbdlfopfgcaaGreatDoorShelf
namespace Go.Proofs.YtfalbdlfopfgcaaGreatDoor
open Go.RowKit Go.Lib

theorem tab_bool {W : World} (h : VarReads Tryz.prog W "internal/strconv.optimize" (.lit (.bool true))) : W.cell? ⟨5, 0, none⟩ = some (.bool true) := by
  obtain ⟨g, t, cs, fuel, p, hg, hty, hvar, hd⟩ := h
  obtain rfl := Option.some.inj ((show Tryz.prog.globalNamed "internal/strconv.optimize" = some 5 by kernel_rfl).symm.trans hg)
  obtain rfl := Option.some.inj ((show (Tryz.prog.globals[5]?).map (·.type) = some 4 by kernel_rfl).symm.trans hty)
  obtain ⟨b, hcs, hx⟩ := DataW.trod_bool Tryz.underlying4 hd
  cases hx
  rw [World.var?_cell hg hvar 0, ← Array.getElem?_toList, hcs]
  rfl
theorem tab_info {W : World} (h : VarReads Tryz.prog W "internal/strconv.float64info" (.agg [.lit (.int .u64 52), .lit (.int .u64 11), .lit (.int .i64 (-1023))])) : W.cell? ⟨6, 0, none⟩ = some (.int .u64 52) := by
  obtain ⟨g, t, cs, fuel, p, hg, hty, hvar, hd⟩ := h
  obtain rfl := Option.some.inj ((show Tryz.prog.globalNamed "internal/strconv.float64info" = some 6 by kernel_rfl).symm.trans hg)
  obtain rfl := Option.some.inj ((show (Tryz.prog.globals[6]?).map (·.type) = some 193 by kernel_rfl).symm.trans hty)
  obtain ⟨xs, n, rfl, hx, hl, hxl, hall⟩ := DataW.trod_struct Tryz.underlying193 hd
  have h0 := hall 0 _ rfl
  have hm : xs.map (·.1) = [.lit (.int .u64 52), .lit (.int .u64 11), .lit (.int .i64 (-1023))] := by
    have := congrArg Prod.fst hx
    simpa using this.symm
  obtain ⟨y, hy⟩ : ∃ y, xs[0]? = some y := by
    have : xs.length = 3 := by have := congrArg List.length hm; simpa using this
    exact ⟨xs[0]'(by omega), List.getElem?_eq_getElem _⟩
  rw [hy] at h0
  obtain ⟨z, hc, rfl, _⟩ := DataW.trod_int Tryz.underlying63 h0
  have hz : z = 52 := by
    have h2 : (xs.map (·.1))[0]? = some (DataW.lit (.int .u64 z)) := by simp [hy]
    rw [hm] at h2
    simpa using h2.symm
  subst hz
  rw [World.var?_cell hg hvar 0, ← Array.getElem?_toList]
  have hc : List.take (Tryz.prog.cellsOf 63) (cs.toList.drop 0) = [.int .u64 52] := hc
  rw [show Tryz.prog.cellsOf 63 = 1 by kernel_rfl] at hc
  have := congrArg (·[0]?) hc
  simpa [List.getElem?_take, List.getElem?_drop] using this
theorem trod_float {H : Type} {enc : TypeId × Value → H} {P : Program} {w : World} {base fuel : Nat} {sp : Nat → Bool} {held : Bool} {t : TypeId} {k : FloatKind} {cs : List Value} {x : DataW H × List MemPlace} (ht : P.underlying t = some (.float k)) (h : DataW.trod enc P w base sp held fuel t cs = some x) : ∃ n, cs = [.float k n] ∧ x = (.lit (.float k n), []) := by
  cases fuel with
  | zero => simp [DataW.trod] at h
  | succ n =>
    unfold DataW.trod at h
    rw [ht] at h
    split at h <;> simp_all
theorem tab_pow {W : World} {l : List Nat} (hl : l.length = 23) (h : VarReads Tryz.prog W "internal/strconv.float64pow10" (.slice (l.map fun n => .lit (.float .f64 n)) [])) : ∃ b o, W.cell? ⟨10, 0, none⟩ = some (.slice (some ⟨b, o, none⟩) 23 23) ∧ ∀ k, k < 23 → W.cell? ⟨b, o + k, none⟩ = some (.float .f64 (l.getD k 0)) := by
  obtain ⟨g, t, cs, fuel, p, hg, hty, hvar, hd⟩ := h
  obtain rfl := Option.some.inj ((show Tryz.prog.globalNamed "internal/strconv.float64pow10" = some 10 by kernel_rfl).symm.trans hg)
  obtain rfl := Option.some.inj ((show (Tryz.prog.globals[10]?).map (·.type) = some 52 by kernel_rfl).symm.trans hty)
  rcases DataW.trod_slice Tryz.underlying52 hd with ⟨_, hx⟩ | ⟨a, len, cap, el, rest, n, rfl, hcs, hx, _, hlc, _, hel, hat, hsp, _⟩
  · cases hx
  · have hm : el.map (·.1) = l.map fun n => .lit (.float .f64 n) := by
      have := congrArg Prod.fst hx
      simp at this
      exact this.1.symm
    have hr : rest = [] := by
      have := congrArg Prod.fst hx
      simp at this
      exact this.2
    have hlen : el.length = 23 := by
      have := congrArg List.length hm
      simpa [hl] using this
    have hcap : cap = 23 := by
      have := (hsp rfl).1
      rw [hr] at this
      simp at this
      omega
    have hlen2 : len = 23 := by omega
    subst hcap hlen2
    have hc1 : Tryz.prog.cellsOf 29 = 1 := by kernel_rfl
    have key : ∀ k, k < 23 → W.cell? (a.add k) = some (.float .f64 (l.getD k 0)) := by
      intro k hk
      have h1 := hat k hk
      rw [hc1, Nat.mul_one, List.getElem?_eq_getElem (by omega)] at h1
      obtain ⟨c, hc, ht⟩ := Option.bind_eq_some_iff.1 h1
      obtain ⟨z, rfl, hz⟩ := trod_float Tryz.underlying29 ht
      have h2 : (el.map (·.1))[k]? = some (DataW.lit (.float .f64 z)) := by
        rw [List.getElem?_map, List.getElem?_eq_getElem (by omega), hz]
        rfl
      rw [hm, List.getElem?_map] at h2
      obtain ⟨q, hq, hq2⟩ := Option.map_eq_some_iff.1 h2
      cases hq2
      rw [List.getD_eq_getElem?_getD, hq]
      unfold World.cells? at hc
      split at hc
      · have := mapM_at hc 0 0 rfl
        obtain ⟨b, hb, hb2⟩ := this
        simp at hb
        subst hb
        simpa [Addr.add] using hb2
      · cases hc
    have h0 := key 0 (by decide)
    obtain ⟨b, o, sp⟩ := a
    have hsn : sp = none := by
      cases sp with
      | none => rfl
      | some x =>
        exfalso
        simp [Addr.add, World.cell?] at h0
        split at h0 <;> simp at h0
    subst hsn
    refine ⟨b, o, ?_, fun k hk => ?_⟩
    · rw [World.var?_cell hg hvar 0, ← Array.getElem?_toList, hcs]
      rfl
    · have := key k hk
      by_cases hk0 : k = 0
      · subst hk0
        exact this
      · simpa [Addr.add, hk0] using this
theorem tab_p10 {W : World} (h : VarReads Tryz.prog W "internal/strconv.pow10Tab" Go.Pinned.pow10Tab) : PTab W := by
  obtain ⟨g, t, cs, fuel, p, hg, hty, hvar, hd⟩ := h
  obtain rfl := Option.some.inj ((show Tryz.prog.globalNamed "internal/strconv.pow10Tab" = some 11 by kernel_rfl).symm.trans hg)
  obtain rfl := Option.some.inj ((show (Tryz.prog.globals[11]?).map (·.type) = some 243 by kernel_rfl).symm.trans hty)
  intro i hi
  have hc2 : Tryz.prog.cellsOf 242 = 2 := by kernel_rfl
  obtain ⟨f', d, q, hdi, ht⟩ := array_elem Tryz.underlying243 hd i hi
  rw [List.getElem?_map] at hdi
  obtain ⟨y, hy, rfl⟩ := Option.map_eq_some_iff.1 hdi
  have hyp : p10 i = y := by
    unfold p10
    rw [List.getD_eq_getElem?_getD, hy]
    rfl
  rw [hyp]
  have hcs := ints_of_struct (k := .u64) (zs := [(y.1 : Int), (y.2 : Int)]) Tryz.underlying242 (by
    intro j f hf
    match j with
    | 0 => cases hf; exact ⟨Tryz.underlying37, rfl, by kernel_rfl⟩
    | 1 => cases hf; exact ⟨Tryz.underlying37, rfl, by kernel_rfl⟩
    | j + 2 => cases hf) hc2 ht
  rw [hc2] at hcs
  have key : ∀ j v, [Value.int .u64 (y.1 : Int), .int .u64 (y.2 : Int)][j]? = some v → W.cell? ⟨11, i * 2 + j, none⟩ = some v := by
    intro j v hv
    have hj : j < 2 := (List.getElem?_eq_some_iff.1 hv).1
    have h1 := congrArg (·[j]?) hcs
    simp only [List.getElem?_take, List.getElem?_drop, if_pos hj] at h1
    rw [World.var?_cell hg hvar, ← Array.getElem?_toList, h1]
    exact hv
  exact ⟨key 0 _ rfl, key 1 _ rfl⟩
theorem tabs_of {W : World} (h5 : VarReads Tryz.prog W "internal/strconv.optimize" Rows.laid_internal_strconv_optimize) (h6 : VarReads Tryz.prog W "internal/strconv.float64info" Rows.laid_internal_strconv_float64info) (h10 : VarReads Tryz.prog W "internal/strconv.float64pow10" Rows.laid_internal_strconv_float64pow10) (h11 : VarReads Tryz.prog W "internal/strconv.pow10Tab" Rows.laid_internal_strconv_pow10Tab) : Tabs W := by
  have p := tab_p10 h11
  refine ⟨p, ⟨tab_info h6, ?_⟩, tab_bool h5, World.block_lt_of_cell? _ _ (p 0 (by decide)).1⟩
  exact tab_pow (l := [4607182418800017408, 4621819117588971520, 4636737291354636288, 4652007308841189376, 4666723172467343360, 4681608360884174848, 4696837146684686336, 4711630319722168320, 4726483295884279808, 4741671816366391296, 4756540486875873280, 4771362005757984768, 4786511204640096256, 4801453603149578240, 4816244402031689728, 4831355200913801216, 4846369599423283200, 4861130398305394688, 4876203697187506176, 4891288408196988160, 4906019910204099648, 4921056587992461136, 4936209963552724370]) rfl h10
/-- The table by which Itoa writes. -/
theorem tab_i10 {W : World} (h : VarReads Tryz.prog W "internal/strconv.uint64pow10" Rows.laid_internal_strconv_uint64pow10) : Lib.TabIs Tryz.prog W "internal/strconv.uint64pow10" .u64 Lib.pow10Tab := by
  obtain ⟨g, t, cs, fuel, p, hg, hty, hvar, hd⟩ := h
  obtain rfl := Option.some.inj ((show Tryz.prog.globalNamed "internal/strconv.uint64pow10" = some 7 by kernel_rfl).symm.trans hg)
  obtain rfl := Option.some.inj ((show (Tryz.prog.globals[7]?).map (·.type) = some 213 by kernel_rfl).symm.trans hty)
  unfold Lib.TabIs
  have hd2 : DataW.trod (fun _ => ()) Tryz.prog W 0 (fun _ => true) false fuel 213 cs.toList = some (Lib.tabData .u64 Lib.pow10Tab, p) := hd
  rw [hvar, ← Lib.cells_of_tab (n := 20) Tryz.underlying213 Tryz.underlying37 (by kernel_rfl) (by kernel_rfl) hd2]
end Go.Proofs.YtfalbdlfopfgcaaGreatDoor

namespace Go.Proofs.YtfalbdlfopfgcaaGreatDoor
open Go.RowKit Go.Lib

theorem add_two (b o x j : Nat) : ((⟨b, o, none⟩ : Addr).add x).add j = ⟨b, o + x + j, none⟩ := by
  unfold Addr.add
  by_cases hx : x = 0
  · rw [if_pos hx, hx]
    by_cases hj : j = 0
    · rw [if_pos hj, hj]; rfl
    · rw [if_neg hj]; rfl
  · rw [if_neg hx]
    by_cases hj : j = 0
    · rw [if_pos hj, hj]; rfl
    · rw [if_neg hj]
/-- A laid slice: its header, its elements' cells. -/
theorem tab_slice {W : World} {name : String} {gi c n : Nat} {ty el : TypeId} {ds : List (DataW Unit)} (h : VarReads Tryz.prog W name (.slice ds [])) (hgn : Tryz.prog.globalNamed name = some gi) (hgt : (Tryz.prog.globals[gi]?).map (·.type) = some ty) (hu : Tryz.prog.underlying ty = some (.slice el)) (hc : Tryz.prog.cellsOf el = c) (hc0 : 0 < c) (hn : ds.length = n) (hn0 : 0 < n) :
    ∃ b o, W.cell? ⟨gi, 0, none⟩ = some (.slice (some ⟨b, o, none⟩) n n) ∧ ∀ k, k < n → ∃ (cs : List Value) (f : Nat) (d : DataW Unit) (q : List MemPlace), ds[k]? = some d ∧ cs.length = c ∧ DataW.trod (fun _ => ()) Tryz.prog W 0 (fun _ => true) false f el cs = some (d, q) ∧ ∀ j, j < c → W.cell? ⟨b, o + k * c + j, none⟩ = cs[j]? := by
  obtain ⟨g, t, cs, fuel, p, hg, hty, hvar, hd⟩ := h
  obtain rfl := Option.some.inj (hgn.symm.trans hg)
  obtain rfl := Option.some.inj (hgt.symm.trans hty)
  rcases DataW.trod_slice hu hd with ⟨_, hx⟩ | ⟨a, len, cap, es, rest, f, rfl, hcs, hx, _, hlc, _, hel, hat, hsp, _⟩
  · cases hx
  · have hm : es.map (·.1) = ds := by
      have := congrArg Prod.fst hx
      simp at this
      exact this.1.symm
    have hr : rest = [] := by
      have := congrArg Prod.fst hx
      simp at this
      exact this.2
    have hlen : es.length = n := by
      have := congrArg List.length hm
      simpa [hn] using this
    have hcap : cap = n := by
      have := (hsp rfl).1
      rw [hr] at this
      simp at this
      omega
    have hlen2 : len = n := by omega
    subst hcap hlen2
    have key : ∀ k, k < len → ∃ (cs : List Value) (d : DataW Unit) (q : List MemPlace), ds[k]? = some d ∧ cs.length = c ∧ DataW.trod (fun _ => ()) Tryz.prog W 0 (fun _ => true) false f el cs = some (d, q) ∧ ∀ j, j < c → W.cell? ((a.add (k * c)).add j) = cs[j]? := by
      intro k hk
      have h1 := hat k hk
      obtain ⟨e, he⟩ : ∃ e, es[k]? = some e := ⟨es[k]'(by omega), List.getElem?_eq_getElem (by omega)⟩
      rw [hc, he] at h1
      obtain ⟨z, hz, ht⟩ := Option.bind_eq_some_iff.1 h1
      have h2 : (es.map (·.1))[k]? = some e.1 := by
        rw [List.getElem?_map, he]
        rfl
      rw [hm] at h2
      refine ⟨z, e.1, e.2, h2, ?_, ht, ?_⟩
      · unfold World.cells? at hz
        split at hz
        · have := mapM_some_length hz
          simpa using this
        · cases hz
      · intro j hj
        unfold World.cells? at hz
        split at hz
        · have := mapM_some_get hz j j (by simp [hj])
          exact this
        · cases hz
    obtain ⟨b, o, sp⟩ := a
    have hsn : sp = none := by
      obtain ⟨z, d, q, -, hl, -, h0⟩ := key 0 hn0
      have h1 := h0 0 hc0
      rw [List.getElem?_eq_getElem (by omega)] at h1
      cases sp with
      | none => rfl
      | some x =>
        exfalso
        simp [Addr.add, World.cell?] at h1
        split at h1 <;> simp at h1
    subst hsn
    refine ⟨b, o, ?_, fun k hk => ?_⟩
    · rw [World.var?_cell hg hvar 0, ← Array.getElem?_toList, hcs]
      rfl
    · obtain ⟨z, d, q, h1, h2, h3, h4⟩ := key k hk
      refine ⟨z, f, d, q, h1, h2, h3, fun j hj => ?_⟩
      rw [← h4 j hj, add_two]
theorem at_take {l : List Value} {o n : Nat} {v : Value} (h : (l.drop o).take n = [v]) : l[o]? = some v := by
  have := congrArg (·[0]?) h
  simp only [List.getElem?_cons_zero] at this
  rw [List.getElem?_take] at this
  split at this
  · rwa [List.getElem?_drop, Nat.add_zero] at this
  · cases this
theorem tab_info9 {W : World} (h : VarReads Tryz.prog W "internal/strconv.float64info" (.agg [.lit (.int .u64 52), .lit (.int .u64 11), .lit (.int .i64 (-1023))])) : W.cell? ⟨6, 0, none⟩ = some (.int .u64 52) ∧ W.cell? ⟨6, 1, none⟩ = some (.int .u64 11) ∧ W.cell? ⟨6, 2, none⟩ = some (.int .i64 (-1023)) := by
  obtain ⟨g, t, cs, fuel, p, hg, hty, hvar, hd⟩ := h
  obtain rfl := Option.some.inj ((show Tryz.prog.globalNamed "internal/strconv.float64info" = some 6 by kernel_rfl).symm.trans hg)
  obtain rfl := Option.some.inj ((show (Tryz.prog.globals[6]?).map (·.type) = some 193 by kernel_rfl).symm.trans hty)
  obtain ⟨y0, y1, y2, n, hx, hl, h0, h1, h2⟩ := Go.Deep.trod_struct3 Tryz.underlying193 hd
  obtain ⟨z0, c0, e0, -⟩ := DataW.trod_int Tryz.underlying63 h0
  obtain ⟨z1, c1, e1, -⟩ := DataW.trod_int Tryz.underlying63 h1
  obtain ⟨z2, c2, e2, -⟩ := DataW.trod_int Tryz.underlying3 h2
  have hm := congrArg Prod.fst hx
  rw [e0, e1, e2] at hm
  simp at hm
  obtain ⟨rfl, rfl, rfl⟩ := hm
  have g0 := at_take c0
  have g1 := at_take c1
  have g2 := at_take c2
  refine ⟨?_, ?_, ?_⟩
  · rw [World.var?_cell hg hvar 0, ← Array.getElem?_toList]; exact g0
  · rw [World.var?_cell hg hvar 1, ← Array.getElem?_toList]; exact g1
  · rw [World.var?_cell hg hvar 2, ← Array.getElem?_toList]; exact g2
theorem tab_powt {W : World} (h : VarReads Tryz.prog W "internal/strconv.powtab" Rows.laid_internal_strconv_powtab) : ∃ b o, W.cell? ⟨9, 0, none⟩ = some (.slice (some ⟨b, o, none⟩) 9 9) ∧ ∀ i, i < 9 → W.cell? ⟨b, o + i, none⟩ = some (.int .i64 (powT i : Nat)) := by
  obtain ⟨b, o, h1, h2⟩ := tab_slice (gi := 9) (c := 1) (n := 9) (ty := 49) (el := 3) h (by kernel_rfl) (by kernel_rfl) Tryz.underlying49 (by kernel_rfl) (by decide) rfl (by decide)
  refine ⟨b, o, h1, fun i hi => ?_⟩
  obtain ⟨cs, f, d, q, e1, e2, e3, e4⟩ := h2 i hi
  obtain ⟨z, rfl, hz, -⟩ := DataW.trod_int Tryz.underlying3 e3
  have e5 := e4 0 (by decide)
  rw [Nat.mul_one, Nat.add_zero] at e5
  rw [e5]
  have hd : d = .lit (.int .i64 z) := congrArg Prod.fst hz
  rw [hd] at e1
  have hk : ∀ i : Fin 9, ([.lit (.int .i64 1), .lit (.int .i64 3), .lit (.int .i64 6), .lit (.int .i64 9), .lit (.int .i64 13), .lit (.int .i64 16), .lit (.int .i64 19), .lit (.int .i64 23), .lit (.int .i64 26)] : List (DataW Unit))[i.val]? = some (.lit (.int .i64 (powT i.val : Nat))) := by
    intro i
    match i with
    | ⟨0, _⟩ => rfl
    | ⟨1, _⟩ => rfl
    | ⟨2, _⟩ => rfl
    | ⟨3, _⟩ => rfl
    | ⟨4, _⟩ => rfl
    | ⟨5, _⟩ => rfl
    | ⟨6, _⟩ => rfl
    | ⟨7, _⟩ => rfl
    | ⟨8, _⟩ => rfl
  have h3 := (hk ⟨i, hi⟩).symm.trans e1
  injection h3 with h3
  injection h3 with h3
  injection h3 with h3 h4
  simp only at h4
  rw [← h4]
  rfl
theorem cheat_ge : ∀ i : Fin 61, ∀ c ∈ (Go.Pinned.cheatRows.getD i.val (0, [])).2, 48 ≤ c.toNat := by decide +kernel
theorem tab_cheat {W : World} (h : VarReads Tryz.prog W "internal/strconv.leftcheats" Go.Pinned.leftcheats) : ∃ b o, CTab W b o := by
  obtain ⟨b, o, h1, h2⟩ := tab_slice (gi := 14) (c := 2) (n := 61) (ty := 250) (el := 249) h (by kernel_rfl) (by kernel_rfl) Tryz.underlying250 (by kernel_rfl) (by decide) (by rw [List.length_map]; decide +kernel) (by decide)
  have key : ∀ i, i < 61 → W.cell? ⟨b, o + i * 2, none⟩ = some (.int .i64 (chD i : Nat)) ∧ ∃ s, W.cell? ⟨b, o + i * 2 + 1, none⟩ = some (.string s) ∧ bys s = (chU i).map (48 + ·) := by
    intro i hi
    obtain ⟨cs, f, d, q, e1, e2, e3, e4⟩ := h2 i hi
    obtain ⟨y0, y1, n, hx, hl, t0, t1⟩ := Go.ChangeShapes.trod_struct2 Tryz.underlying249 e3
    obtain ⟨z0, c0, g0, -⟩ := DataW.trod_int Tryz.underlying3 t0
    obtain ⟨s, c1, g1, -⟩ := DataW.trod_string Tryz.underlying9 t1
    have hd := congrArg Prod.fst hx
    rw [g0, g1] at hd
    simp only at hd
    rw [hd, List.getElem?_map] at e1
    obtain ⟨x, hx1, hx2⟩ := Option.map_eq_some_iff.1 e1
    injection hx2 with hx2
    injection hx2 with q0 q1
    injection q1 with q1
    injection q0 with q0
    injection q0 with _ q0
    injection q1 with q1
    injection q1 with q1
    have hxe : Go.Pinned.cheatRows.getD i (0, []) = x := by rw [List.getD_eq_getElem?_getD, hx1]; rfl
    refine ⟨?_, s, ?_, ?_⟩
    · have := e4 0 (by decide)
      rw [Nat.add_zero] at this
      rw [this]
      have := at_take c0
      refine this.trans ?_
      unfold chD
      rw [hxe, ← q0]
      simp
    · have := e4 1 (by decide)
      rw [this]
      exact at_take c1
    · unfold bys chU
      have hge := cheat_ge ⟨i, hi⟩
      simp only at hge
      rw [hxe, q1] at hge
      rw [hxe, q1, List.map_map]
      apply List.map_congr_left
      intro c hc
      have := hge c hc
      simp only [Function.comp]
      omega
  exact ⟨b, o, h1, fun i hi => (key i hi).1, fun i hi => (key i hi).2⟩
theorem stab_of {W : World} (h6 : VarReads Tryz.prog W "internal/strconv.float64info" Rows.laid_internal_strconv_float64info) (h9 : VarReads Tryz.prog W "internal/strconv.powtab" Rows.laid_internal_strconv_powtab) (h14 : VarReads Tryz.prog W "internal/strconv.leftcheats" Rows.laid_internal_strconv_leftcheats) : STabW W := by
  obtain ⟨a0, a1, a2⟩ := tab_info9 h6
  obtain ⟨pb, po, p1, p2⟩ := tab_powt h9
  obtain ⟨cb, co, hc⟩ := tab_cheat h14
  exact ⟨pb, po, cb, co, a0, a1, a2, p1, p2, hc, World.block_lt_of_cell? _ _ (p2 0 (by decide)), World.block_lt_of_cell? _ _ (hc.d 0 (by decide)), World.block_lt_of_cell? _ _ hc.h⟩
theorem trod_ifc {H : Type} {enc : TypeId × Value → H} {P : Program} {w : World} {base fuel : Nat} {sp : Nat → Bool} {held : Bool} {t : TypeId} {ms} {cs : List Value} {x : DataW H × List MemPlace} (ht : P.underlying t = some (.interface ms)) (h : DataW.trod enc P w base sp held fuel t cs = some x) : ∃ ev, cs = [ev] ∧ (ev = .nilIface ∨ ∃ te pe, ev = .iface te pe) := by
  cases fuel with
  | zero => simp [DataW.trod] at h
  | succ n =>
    unfold DataW.trod at h
    rw [ht] at h
    split at h <;> simp_all
/-- What the variable ErrRange holds is an error or nothing. -/
theorem tab_err {W : World} (h : VarReads Tryz.prog W "strconv.ErrRange" Rows.laid_strconv_ErrRange) : ∃ ev, W.cell? ⟨3, 0, none⟩ = some ev ∧ (ev = .nilIface ∨ ∃ te pe, ev = .iface te pe) := by
  obtain ⟨g, t, cs, fuel, p, hg, hty, hvar, hd⟩ := h
  obtain rfl := Option.some.inj ((show Tryz.prog.globalNamed "strconv.ErrRange" = some 3 by kernel_rfl).symm.trans hg)
  obtain rfl := Option.some.inj ((show (Tryz.prog.globals[3]?).map (·.type) = some 73 by kernel_rfl).symm.trans hty)
  obtain ⟨ev, h1, h2⟩ := trod_ifc Tryz.underlying73 hd
  refine ⟨ev, ?_, h2⟩
  rw [World.var?_cell hg hvar 0, ← Array.getElem?_toList, h1]
  rfl
end Go.Proofs.YtfalbdlfopfgcaaGreatDoor

namespace Go.Proofs.YtfalbdlfopfgcaaGreatDoor
open Go.RowKit Go.Lib

/-- A number; an error or none. -/
def RetPg (w : World) (v : Option Nat) (E : Ending) (w' : World) : Prop := ∃ r g, E = .returned (.tuple #[.float .f64 r, g]) ∧ val r = v ∧ Below w.heap.size w w'
theorem prefix_gen (s : ByteArray) (v : Option Nat) (g : Value) (w : World) (h : Calls Tryz.prog 130 #[.string s] w (RetAw w v g s.size)) : Calls Tryz.prog 113 #[.string s, .int .i64 64] w (RetAw w v g s.size) := by
  have h' := hid h
  clear h
  go_enter Tryz.func113, Tryz.ntmps113
  go_wp2_with (first | (go_at_call 130; (with_reducible refine h'.out.mono ?_); rintro E1 w1 ⟨r, rfl, hr, hb⟩))
  go_ret3
  exact ⟨r, rfl, hr, hb⟩
theorem iParseFloat_gen (s : ByteArray) (v : Option Nat) (g : Value) (w : World) (h : Calls Tryz.prog 130 #[.string s] w (RetAw w v g s.size)) : Calls Tryz.prog 93 #[.string s, .int .i64 64] w fun E w' => ∃ r, E = .returned (.tuple #[.float .f64 r, g]) ∧ val r = v ∧ Below w.heap.size w w' := by
  have h' := hid (prefix_gen s v g w h)
  clear h
  go_enter Tryz.func93, Tryz.ntmps93
  go_wp2_with (first | (go_at_call 113; (with_reducible refine h'.out.mono ?_); rintro E1 w1 ⟨r, rfl, hr, hb⟩))
  go_ret2
  exact ⟨r, rfl, hr, hb⟩
theorem ParseFloat_gen (s : ByteArray) (v : Option Nat) (r0 : Nat) (ev : Value) (w : World) (hs : s.size ≤ 200) (hv : w.cell? ⟨3, 0, none⟩ = some ev) (hev : ev = .nilIface ∨ ∃ te pe, ev = .iface te pe) (h : Calls Tryz.prog 130 #[.string s] w (RetAw w v (rngG r0) s.size)) :
    Calls Tryz.prog 68 #[.string s, .int .i64 64] w (RetPg w v) := by
  have h' := hid (iParseFloat_gen s v (rngG r0) w h)
  clear h
  by_cases hi : 9218868437227405312 ≤ r0
  · have hg : rngG r0 = .iface 155 (.int .i64 1) := by unfold rngG; rw [if_pos hi]
    rw [hg] at h'
    have HE := hid fun (fn : ByteArray) (base bits : Int) w1 (hb : Below w.heap.size w w1) => Tryz.strconv_toError_range fn s base bits ev w1 (by omega) ((hb.cell (World.block_lt_of_cell? _ _ hv)).trans hv) hev
    clear hg hi hv hev
    go_enter Tryz.func68, Tryz.ntmps68
    go_wp2_with (first
      | (go_at_call 93; (with_reducible refine h'.out.mono ?_); rintro E1 w1 ⟨r, rfl, hr, hb⟩)
      | (go_at_call 94; (with_reducible refine (HE.out _ _ _ _ hb).mono ?_); rintro E2 w2 ⟨N, rfl, hN, hN2, hb2⟩))
    go_ret2
    exact ⟨r, _, rfl, hr, hb.trans (hb2.mono hb.size)⟩
  · have hg : rngG r0 = .nilIface := by unfold rngG; rw [if_neg hi]
    rw [hg] at h'
    clear hg hi hv hev
    go_enter Tryz.func68, Tryz.ntmps68
    go_wp2_with (first | (go_at_call 93; (with_reducible refine h'.out.mono ?_); rintro E1 w1 ⟨r, rfl, hr, hb⟩))
    go_ret2
    exact ⟨r, _, rfl, hr, hb⟩
end Go.Proofs.YtfalbdlfopfgcaaGreatDoor
