/- The tables of reading, out of the row's listed variables. -/
import Derived.Test.YtfalbdlfopfgcaaGreatDoorPf
import Derived.Test.YtfalbdlfopfgcaaGreatDoorRows
import Derived.Lib.LaidU8
import Derived.Lib.LaidTab
namespace Go.Proofs.YtfalbdlfopfgcaaGreatDoor
open Go.RowKit Go.Lib

theorem tab_bool {W : World} (h : VarReads Tryz.prog W "internal/strconv.optimize" (.lit (.bool true))) : W.cell? ⟨5, 0, none⟩ = some (.bool true) := by
  obtain ⟨g, t, cs, fuel, p, hg, hty, hvar, hd⟩ := h
  obtain rfl := Option.some.inj ((show Tryz.prog.globalNamed "internal/strconv.optimize" = some 5 by kernel_rfl).symm.trans hg)
  obtain rfl := Option.some.inj ((show (Tryz.prog.globals[5]?).map (·.type) = some 4 by kernel_rfl).symm.trans hty)
  obtain ⟨b, hcs, hx⟩ := DataW.trod_bool Tryz.underlying4 hd
  cases hx
  rw [World.var?_cell hg hvar 0, ← Array.getElem?_toList, hcs]
  rfl
theorem tab_info {W : World} (h : VarReads Tryz.prog W "internal/strconv.float64info" (.agg [.lit (.int .u64 52), .lit (.int .u64 11), .lit (.int .i64 (-1023))])) : W.cell? ⟨6, 0, none⟩ = some (.int .u64 52) := by
  obtain ⟨g, t, cs, fuel, p, hg, hty, hvar, hd⟩ := h
  obtain rfl := Option.some.inj ((show Tryz.prog.globalNamed "internal/strconv.float64info" = some 6 by kernel_rfl).symm.trans hg)
  obtain rfl := Option.some.inj ((show (Tryz.prog.globals[6]?).map (·.type) = some 193 by kernel_rfl).symm.trans hty)
  obtain ⟨xs, n, rfl, hx, hl, hxl, hall⟩ := DataW.trod_struct Tryz.underlying193 hd
  have h0 := hall 0 _ rfl
  have hm : xs.map (·.1) = [.lit (.int .u64 52), .lit (.int .u64 11), .lit (.int .i64 (-1023))] := by
    have := congrArg Prod.fst hx
    simpa using this.symm
  obtain ⟨y, hy⟩ : ∃ y, xs[0]? = some y := by
    have : xs.length = 3 := by have := congrArg List.length hm; simpa using this
    exact ⟨xs[0]'(by omega), List.getElem?_eq_getElem _⟩
  rw [hy] at h0
  obtain ⟨z, hc, rfl, _⟩ := DataW.trod_int Tryz.underlying63 h0
  have hz : z = 52 := by
    have h2 : (xs.map (·.1))[0]? = some (DataW.lit (.int .u64 z)) := by simp [hy]
    rw [hm] at h2
    simpa using h2.symm
  subst hz
  rw [World.var?_cell hg hvar 0, ← Array.getElem?_toList]
  have hc : List.take (Tryz.prog.cellsOf 63) (cs.toList.drop 0) = [.int .u64 52] := hc
  rw [show Tryz.prog.cellsOf 63 = 1 by kernel_rfl] at hc
  have := congrArg (·[0]?) hc
  simpa [List.getElem?_take, List.getElem?_drop] using this
theorem trod_float {H : Type} {enc : TypeId × Value → H} {P : Program} {w : World} {base fuel : Nat} {sp : Nat → Bool} {held : Bool} {t : TypeId} {k : FloatKind} {cs : List Value} {x : DataW H × List MemPlace} (ht : P.underlying t = some (.float k)) (h : DataW.trod enc P w base sp held fuel t cs = some x) : ∃ n, cs = [.float k n] ∧ x = (.lit (.float k n), []) := by
  cases fuel with
  | zero => simp [DataW.trod] at h
  | succ n =>
    unfold DataW.trod at h
    rw [ht] at h
    split at h <;> simp_all
theorem tab_pow {W : World} {l : List Nat} (hl : l.length = 23) (h : VarReads Tryz.prog W "internal/strconv.float64pow10" (.slice (l.map fun n => .lit (.float .f64 n)) [])) : ∃ b o, W.cell? ⟨10, 0, none⟩ = some (.slice (some ⟨b, o, none⟩) 23 23) ∧ ∀ k, k < 23 → W.cell? ⟨b, o + k, none⟩ = some (.float .f64 (l.getD k 0)) := by
  obtain ⟨g, t, cs, fuel, p, hg, hty, hvar, hd⟩ := h
  obtain rfl := Option.some.inj ((show Tryz.prog.globalNamed "internal/strconv.float64pow10" = some 10 by kernel_rfl).symm.trans hg)
  obtain rfl := Option.some.inj ((show (Tryz.prog.globals[10]?).map (·.type) = some 52 by kernel_rfl).symm.trans hty)
  rcases DataW.trod_slice Tryz.underlying52 hd with ⟨_, hx⟩ | ⟨a, len, cap, el, rest, n, rfl, hcs, hx, _, hlc, _, hel, hat, hsp, _⟩
  · cases hx
  · have hm : el.map (·.1) = l.map fun n => .lit (.float .f64 n) := by
      have := congrArg Prod.fst hx
      simp at this
      exact this.1.symm
    have hr : rest = [] := by
      have := congrArg Prod.fst hx
      simp at this
      exact this.2
    have hlen : el.length = 23 := by
      have := congrArg List.length hm
      simpa [hl] using this
    have hcap : cap = 23 := by
      have := (hsp rfl).1
      rw [hr] at this
      simp at this
      omega
    have hlen2 : len = 23 := by omega
    subst hcap hlen2
    have hc1 : Tryz.prog.cellsOf 29 = 1 := by kernel_rfl
    have key : ∀ k, k < 23 → W.cell? (a.add k) = some (.float .f64 (l.getD k 0)) := by
      intro k hk
      have h1 := hat k hk
      rw [hc1, Nat.mul_one, List.getElem?_eq_getElem (by omega)] at h1
      obtain ⟨c, hc, ht⟩ := Option.bind_eq_some_iff.1 h1
      obtain ⟨z, rfl, hz⟩ := trod_float Tryz.underlying29 ht
      have h2 : (el.map (·.1))[k]? = some (DataW.lit (.float .f64 z)) := by
        rw [List.getElem?_map, List.getElem?_eq_getElem (by omega), hz]
        rfl
      rw [hm, List.getElem?_map] at h2
      obtain ⟨q, hq, hq2⟩ := Option.map_eq_some_iff.1 h2
      cases hq2
      rw [List.getD_eq_getElem?_getD, hq]
      unfold World.cells? at hc
      split at hc
      · have := mapM_at hc 0 0 rfl
        obtain ⟨b, hb, hb2⟩ := this
        simp at hb
        subst hb
        simpa [Addr.add] using hb2
      · cases hc
    have h0 := key 0 (by decide)
    obtain ⟨b, o, sp⟩ := a
    have hsn : sp = none := by
      cases sp with
      | none => rfl
      | some x =>
        exfalso
        simp [Addr.add, World.cell?] at h0
        split at h0 <;> simp at h0
    subst hsn
    refine ⟨b, o, ?_, fun k hk => ?_⟩
    · rw [World.var?_cell hg hvar 0, ← Array.getElem?_toList, hcs]
      rfl
    · have := key k hk
      by_cases hk0 : k = 0
      · subst hk0
        exact this
      · simpa [Addr.add, hk0] using this
theorem tab_p10 {W : World} (h : VarReads Tryz.prog W "internal/strconv.pow10Tab" Go.Pinned.pow10Tab) : PTab W := by
  obtain ⟨g, t, cs, fuel, p, hg, hty, hvar, hd⟩ := h
  obtain rfl := Option.some.inj ((show Tryz.prog.globalNamed "internal/strconv.pow10Tab" = some 11 by kernel_rfl).symm.trans hg)
  obtain rfl := Option.some.inj ((show (Tryz.prog.globals[11]?).map (·.type) = some 243 by kernel_rfl).symm.trans hty)
  intro i hi
  have hc2 : Tryz.prog.cellsOf 242 = 2 := by kernel_rfl
  obtain ⟨f', d, q, hdi, ht⟩ := array_elem Tryz.underlying243 hd i hi
  rw [List.getElem?_map] at hdi
  obtain ⟨y, hy, rfl⟩ := Option.map_eq_some_iff.1 hdi
  have hyp : p10 i = y := by
    unfold p10
    rw [List.getD_eq_getElem?_getD, hy]
    rfl
  rw [hyp]
  have hcs := ints_of_struct (k := .u64) (zs := [(y.1 : Int), (y.2 : Int)]) Tryz.underlying242 (by
    intro j f hf
    match j with
    | 0 => cases hf; exact ⟨Tryz.underlying37, rfl, by kernel_rfl⟩
    | 1 => cases hf; exact ⟨Tryz.underlying37, rfl, by kernel_rfl⟩
    | j + 2 => cases hf) hc2 ht
  rw [hc2] at hcs
  have key : ∀ j v, [Value.int .u64 (y.1 : Int), .int .u64 (y.2 : Int)][j]? = some v → W.cell? ⟨11, i * 2 + j, none⟩ = some v := by
    intro j v hv
    have hj : j < 2 := (List.getElem?_eq_some_iff.1 hv).1
    have h1 := congrArg (·[j]?) hcs
    simp only [List.getElem?_take, List.getElem?_drop, if_pos hj] at h1
    rw [World.var?_cell hg hvar, ← Array.getElem?_toList, h1]
    exact hv
  exact ⟨key 0 _ rfl, key 1 _ rfl⟩
theorem tabs_of {W : World} (h5 : VarReads Tryz.prog W "internal/strconv.optimize" Rows.laid_internal_strconv_optimize) (h6 : VarReads Tryz.prog W "internal/strconv.float64info" Rows.laid_internal_strconv_float64info) (h10 : VarReads Tryz.prog W "internal/strconv.float64pow10" Rows.laid_internal_strconv_float64pow10) (h11 : VarReads Tryz.prog W "internal/strconv.pow10Tab" Rows.laid_internal_strconv_pow10Tab) : Tabs W := by
  have p := tab_p10 h11
  refine ⟨p, ⟨tab_info h6, ?_⟩, tab_bool h5, World.block_lt_of_cell? _ _ (p 0 (by decide)).1⟩
  exact tab_pow (l := [4607182418800017408, 4621819117588971520, 4636737291354636288, 4652007308841189376, 4666723172467343360, 4681608360884174848, 4696837146684686336, 4711630319722168320, 4726483295884279808, 4741671816366391296, 4756540486875873280, 4771362005757984768, 4786511204640096256, 4801453603149578240, 4816244402031689728, 4831355200913801216, 4846369599423283200, 4861130398305394688, 4876203697187506176, 4891288408196988160, 4906019910204099648, 4921056587992461136, 4936209963552724370]) rfl h10
/-- The table by which Itoa writes. -/
theorem tab_i10 {W : World} (h : VarReads Tryz.prog W "internal/strconv.uint64pow10" Rows.laid_internal_strconv_uint64pow10) : Lib.TabIs Tryz.prog W "internal/strconv.uint64pow10" .u64 Lib.pow10Tab := by
  obtain ⟨g, t, cs, fuel, p, hg, hty, hvar, hd⟩ := h
  obtain rfl := Option.some.inj ((show Tryz.prog.globalNamed "internal/strconv.uint64pow10" = some 7 by kernel_rfl).symm.trans hg)
  obtain rfl := Option.some.inj ((show (Tryz.prog.globals[7]?).map (·.type) = some 213 by kernel_rfl).symm.trans hty)
  unfold Lib.TabIs
  have hd2 : DataW.trod (fun _ => ()) Tryz.prog W 0 (fun _ => true) false fuel 213 cs.toList = some (Lib.tabData .u64 Lib.pow10Tab, p) := hd
  rw [hvar, ← Lib.cells_of_tab (n := 20) Tryz.underlying213 Tryz.underlying37 (by kernel_rfl) (by kernel_rfl) hd2]
end Go.Proofs.YtfalbdlfopfgcaaGreatDoor

