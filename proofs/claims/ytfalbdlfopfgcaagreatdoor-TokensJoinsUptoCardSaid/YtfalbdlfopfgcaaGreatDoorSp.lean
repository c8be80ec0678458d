/- internal/strconv.atof64 where more than 19 digits stand: the walk: the nearest word. Conditions: the text is read aright; the tables lie there. -/
import Derived.Test.YtfalbdlfopfgcaaGreatDoorSn
import Derived.Test.YtfalbdlfopfgcaaGreatDoorSgM
namespace Go.Proofs.YtfalbdlfopfgcaaGreatDoor
open Go.RowKit

/-- A word with a sign. -/
theorem sg_word {sg r : Nat} (hsg : sg = 0 ∨ sg = 9223372036854775808) (hr : r ≤ 9218868437227405312) : IsW (sg + r) ∧ nanB (sg + r) = false ∧ key (sg + r) = if sg = 0 then (r : Int) else -(r : Int) := by
  rcases hsg with rfl | rfl
  · refine ⟨by unfold IsW; omega, ?_, ?_⟩
    · unfold nanB
      exact decide_eq_false (by omega)
    · unfold key
      rw [if_pos rfl, if_pos (by omega)]
      omega
  · refine ⟨by unfold IsW; omega, ?_, ?_⟩
    · unfold nanB
      rw [Nat.add_mod_left]
      exact decide_eq_false (by omega)
    · unfold key
      rw [if_neg (by omega), if_neg (by omega)]
      omega
theorem feq_words {sg r r' : Nat} (hsg : sg = 0 ∨ sg = 9223372036854775808) (hr : r ≤ 9218868437227405312) (hr' : r' ≤ 9218868437227405312) : feq (val (sg + r)) (val (sg + r')) = decide (r = r') := by
  obtain ⟨a1, a2, a3⟩ := sg_word hsg hr
  obtain ⟨b1, b2, b3⟩ := sg_word hsg hr'
  rw [val_some a2, val_some b2, feq_key a1 b1 a2 b2, a3, b3]
  apply decide_eq_decide.2
  split <;> omega
theorem NearM.le {V D r : Nat} (h : NearM V D r) : r ≤ 9218868437227405312 := h.1
/-- What atof64 hands back. -/
def RetAw (w : World) (v : Option Nat) (g : Value) (n : Nat) (E : Ending) (w' : World) : Prop := ∃ r, E = .returned (.tuple #[.float .f64 r, .int .i64 n, g]) ∧ val r = v ∧ Below w.heap.size w w'
def rngG (r : Nat) : Value := if 9218868437227405312 ≤ r then .iface 155 (.int .i64 1) else .nilIface
theorem big_mono {V D V' D' : Nat} (h : NearM V D 9218868437227405312) (hD : 0 < D) (hD' : 0 < D') {r : Nat} (h' : NearM V' D' r) (hle : V * D' ≤ V' * D) : r = 9218868437227405312 :=
  Nat.le_antisymm h'.le (h.mono h' hD hD' hle)
theorem tiny_mono {V D V' D' : Nat} (h : NearM V D 0) (hD : 0 < D) (hD' : 0 < D') {r : Nat} (h' : NearM V' D' r) (hle : V' * D ≤ V * D') : r = 0 :=
  Nat.le_antisymm (h'.mono h hD' hD hle) (Nat.zero_le _)
def isU0 : Value → Bool
  | .int .u8 0 => true
  | _ => false
def isAgg : Value → Bool
  | .agg _ => true
  | _ => false
theorem isU0_eq {v : Value} (h : isU0 v = true) : v = .int .u8 0 := by
  unfold isU0 at h
  split at h
  · rfl
  · cases h
theorem isAgg_eq {v : Value} (h : isAgg v = true) : v = .agg v.cells := by
  unfold isAgg at h
  split at h
  · rfl
  · cases h
set_option maxRecDepth 1000000 in
theorem zd1 : ((Tryz.prog.info? 201).bind (·.zero)).isSome = true := by kernel_rfl
set_option maxRecDepth 1000000 in
theorem zd3 : ((Tryz.prog.info? 201).bind (·.zero)).map (fun v => v.cells.size) = some 804 := by kernel_rfl
set_option maxRecDepth 1000000 in
theorem zd4 : ((Tryz.prog.info? 201).bind (·.zero)).map isAgg = some true := by kernel_rfl
set_option maxRecDepth 1000000 in
theorem zd5 : ((Tryz.prog.info? 201).bind (·.zero)).map (fun v => (v.cells.toList.take 800).all isU0) = some true := by kernel_rfl
set_option maxRecDepth 1000000 in
theorem zd6 : ((Tryz.prog.info? 201).bind (·.zero)).map (fun v => v.cells.toList.drop 800) = some [.int .i64 0, .int .i64 0, .bool false, .bool false] := by kernel_rfl
/-- An empty decimal's cells. -/
theorem dc_ex : ∃ z : Array Value, (∀ w, (zeroValue 201).run Tryz.prog w = .ok (.agg z) w) ∧ z.size = 804 ∧ z.toList.drop 800 = [.int .i64 0, .int .i64 0, .bool false, .bool false] ∧ (z.toList.take 800).all isU0 = true := by
  obtain ⟨v, hv⟩ := Option.isSome_iff_exists.1 zd1
  have h3 := zd3
  have h4 := zd4
  have h5 := zd5
  have h6 := zd6
  rw [hv] at h3 h4 h5 h6
  simp only [Option.map_some, Option.some.injEq] at h3 h4 h5 h6
  refine ⟨v.cells, fun w => ?_, h3, h6, h5⟩
  cases hi : Tryz.prog.info? 201 with
  | none => rw [hi] at hv; cases hv
  | some i =>
    rw [hi] at hv
    have hv2 : i.zero = some v := hv
    rw [← isAgg_eq h4]
    simp [zeroValue, typeInfo, hi, hv2]
theorem zd_cells : Tryz.zeroCells201.size = 804 ∧ Tryz.zeroCells201.toList.drop 800 = [.int .i64 0, .int .i64 0, .bool false, .bool false] ∧ (Tryz.zeroCells201.toList.take 800).all isU0 = true := by
  obtain ⟨z, hz, h1, h2, h3⟩ := dc_ex
  have h := (hz default).symm.trans (Tryz.zeroValue201 default)
  injection h with h
  injection h with h
  rw [← h]
  exact ⟨h1, h2, h3⟩
theorem blk_new7 (w : World) (o : Obj) : (w.alloc o).heap[w.heap.size]? = some o := by
  show (w.heap.push _)[w.heap.size]? = _
  simp
theorem dc_new (w : World) : DcAt (w.alloc (.cells Tryz.zeroCells201 201)) w.heap.size (fun _ => 0) 0 0 false false := by
  obtain ⟨h1, h2, h3⟩ := zd_cells
  generalize Tryz.zeroCells201 = z at *
  have hz : ∀ j, z[800 + j]? = [Value.int .i64 0, .int .i64 0, .bool false, .bool false][j]? := fun j => by
    rw [← h2, List.getElem?_drop, Array.getElem?_toList]
  refine ⟨z, blk_new7 _ _, h1, fun k hk => ?_, hz 0, hz 1, hz 2, hz 3⟩
  have hlt : k < z.size := by omega
  have h4 : isU0 (z[k]'hlt) = true := by
    refine List.all_eq_true.1 h3 _ ?_
    refine List.mem_of_getElem? (i := k) ?_
    rw [List.getElem?_take, if_pos hk]
    simp [hlt]
  rw [Array.getElem?_eq_getElem hlt, isU0_eq h4]
  rfl
/-- The tables of reading, all of them. -/
def STabW (w : World) : Prop := ∃ pb po cb co, STab w w.heap.size pb po cb co
theorem STabW.below {w w' : World} (h : STabW w) (hb : Below w.heap.size w w') : STabW w' := by
  obtain ⟨pb, po, cb, co, h1, h2, h3, h4, h5, h6, h7, h8, h9⟩ := h
  have hc : ∀ {p : Addr} {v : Value}, w.cell? p = some v → w'.cell? p = some v := fun h => (hb.cell (World.block_lt_of_cell? _ _ h)).trans h
  exact ⟨pb, po, cb, co, hc h1, hc h2, hc h3, hc h4, fun i hi => hc (h5 i hi), ⟨hc h6.h, fun i hi => hc (h6.d i hi), fun i hi => by
    obtain ⟨s, a, b⟩ := h6.s i hi
    exact ⟨s, hc a, b⟩⟩, Nat.lt_of_lt_of_le h7 hb.size, Nat.lt_of_lt_of_le h8 hb.size, Nat.lt_of_lt_of_le h9 hb.size⟩
theorem STab.belowB {w w' : World} {B pb po cb co : Nat} (h : STab w B pb po cb co) (hb : Below w.heap.size w w') : STab w' B pb po cb co := by
  obtain ⟨h1, h2, h3, h4, h5, h6, h7, h8, h9⟩ := h
  have hc : ∀ {p : Addr} {v : Value}, w.cell? p = some v → w'.cell? p = some v := fun h => (hb.cell (World.block_lt_of_cell? _ _ h)).trans h
  exact ⟨hc h1, hc h2, hc h3, hc h4, fun i hi => hc (h5 i hi), ⟨hc h6.h, fun i hi => hc (h6.d i hi), fun i hi => by
    obtain ⟨s, a, b⟩ := h6.s i hi
    exact ⟨s, hc a, b⟩⟩, h7, h8, h9⟩
theorem ext_all (s : ByteArray) : s.extract 0 s.size = s := by
  simp
set_option maxRecDepth 100000 in
set_option maxHeartbeats 4000000 in
theorem atof_cut (s : ByteArray) (t : List Nat) (dp0 : Int) (neg : Bool) (r : Nat) (g : Value) (hn : Nrm t) (h19 : 19 < t.length) (h64 : t.length ≤ 64) (hr : NearM (tenV (dv t) (dp0 - t.length)) (tenD (dp0 - t.length)) r) (hg : g = rngG r)
    (HS : ∀ w, Calls Tryz.prog 142 #[.string s] w fun e w' => e = .returned (.tuple #[.float .f64 0, .int .i64 0, .bool false]) ∧ w' = w)
    (HR : ∀ w, Calls Tryz.prog 143 #[.string s] w fun e w' => e = .returned (.tuple #[.int .u64 (dv (t.take 19) : Nat), .int .i64 (dp0 - 19), .bool neg, .bool true, .bool false, .int .i64 s.size, .bool true]) ∧ w' = w)
    (HD : ∀ w b, DcAt w b (fun _ => 0) 0 0 false false → Calls Tryz.prog 149 #[.pointer (some ⟨b, 0, none⟩), .string s] w fun E w' => E = .returned (.bool true) ∧ DcT w' b t dp0 neg ∧ w.grownBy w' (some b))
    (w : World) (hT : Tabs w) (hT2 : STabW w) : Calls Tryz.prog 130 #[.string s] w (RetAw w (val (sgn neg + r)) g s.size) := by
  have HS' := hid HS
  have HR' := hid HR
  have HD' := hid HD
  have hg' := hid hg
  have hr' := hid hr
  have hn' := hid hn
  have hT2' := hid hT2
  obtain ⟨hP, -, hO, hBB⟩ := hT
  have HB : Hid (∀ w, Calls Tryz.prog 151 #[.bool neg] w fun e w' => e = .returned (.int .u64 (if neg then 1 else 0)) ∧ w' = w) := hid fun w => bool2u_any neg w
  have o1 : bits .or .u64 (sgn neg : Int) 0 = (sgn neg : Int) := by cases neg <;> decide +kernel
  have o2 : bits .or .u64 (sgn neg : Int) 9218868437227405312 = ((sgn neg + 9218868437227405312 : Nat) : Int) := by cases neg <;> decide +kernel
  have o3 : IntKind.u64.wrap ((if neg = true then 1 else 0) * 9223372036854775808) = (sgn neg : Int) := by cases neg <;> decide +kernel
  have hsg := hid (sgn_or neg)
  obtain ⟨S, hS⟩ : ∃ S, S = sgn neg := ⟨_, rfl⟩
  rw [← hS] at o1 o2 o3 hsg ⊢
  obtain ⟨b1, hb1⟩ : ∃ b1 : Int, b1 = if neg = true then 1 else 0 := ⟨_, rfl⟩
  rw [← hb1] at HB o3
  replace hb1 := hid hb1
  replace hS := hid hS
  have hcl := cut_lo hn.lt (t := t)
  have hd1 : dv (t.take 19) < 10000000000000000000 := by
    have := dv_lt (t.take 19) fun c hc => hn.lt c (List.mem_of_mem_take hc)
    rw [List.length_take, Nat.min_eq_left (by omega)] at this
    exact this
  have hd0 : 1000000000000000000 ≤ dv (t.take 19) := by
    have := (nrm_take hn 19 (by decide)).lo
    rw [List.length_take, Nat.min_eq_left (by omega)] at this
    exact this
  obtain ⟨d, hd⟩ : ∃ d, d = dv (t.take 19) := ⟨_, rfl⟩
  rw [← hd] at hcl hd1 hd0 HR'
  have hlo := hid (ten_up_le (p := dp0 - 19) hcl.1)
  have hhi := hid (ten_le_up (p := dp0 - 19) (Nat.le_of_lt hcl.2))
  rw [show dp0 - 19 - ((t.length - 19 : Nat) : Int) = dp0 - t.length by omega] at hlo hhi
  have e0 : ((d : Int) == 0) = false := beq_eq_false_iff_ne.2 (by omega)
  obtain ⟨p, hp⟩ : ∃ p : Int, p = dp0 - 19 := ⟨_, rfl⟩
  rw [← hp] at HR' hlo hhi
  have hp' := hid hp
  obtain ⟨sz, hsz⟩ : ∃ sz, sz = s.size := ⟨_, rfl⟩
  have hz := hid hsz
  clear HS HR HD hg hr hn hT2 hcl hd hp hsz
  rcases Int.lt_or_le 310 p with h1 | h1
  · obtain ⟨k, hk⟩ : ∃ k : Nat, (k : Int) = p := ⟨p.toNat, by omega⟩
    have hr0 : r = 9218868437227405312 := by
      have hb := near_big (d := d) (k := k) (by omega) (by omega)
      rw [hk] at hb
      exact big_mono hb (tenD_pos _) (tenD_pos _) hr'.out hlo.out
    have hG : Hid (g = .iface 155 (.int .i64 1)) := hid (by rw [hg'.out, hr0]; unfold rngG; rw [if_pos (Nat.le_refl _)])
    have hr0' := hid hr0
    clear hP hr0 hk hlo hhi hr'
    go_enter Tryz.func130, Tryz.ntmps130
    go_wp2_with (first
      | (go_at_call 142; (with_reducible refine (HS'.out _).mono ?_); rintro E1 w1 ⟨rfl, rfl⟩)
      | (go_at_call 143; (with_reducible refine (HR'.out _).mono ?_); rintro E1 w1 ⟨rfl, rfl⟩)
      | (go_at_call 151; (with_reducible refine (HB.out _).mono ?_); rintro E1 w1 ⟨rfl, rfl⟩))
    go_ret3
    exact ⟨_, by rw [hG.out]; rfl, by rw [hr0'.out], Below.refl _ _⟩
  · rcases Int.lt_or_le p (-345) with h2 | h2
    · obtain ⟨k, hk⟩ : ∃ k : Nat, -(k : Int) = p := ⟨(-p).toNat, by omega⟩
      have hr0 : r = 0 := by
        have hb := near_tiny (d := d + 1) (k := k) (by omega) (by omega)
        rw [hk] at hb
        exact tiny_mono hb (tenD_pos _) (tenD_pos _) hr'.out hhi.out
      have hG : Hid (g = .nilIface) := hid (by rw [hg'.out, hr0]; unfold rngG; rw [if_neg (by decide)])
      have hr0' := hid hr0
      clear hP hr0 hk hlo hhi hr'
      go_enter Tryz.func130, Tryz.ntmps130
      go_wp2_with (first
        | (go_at_call 142; (with_reducible refine (HS'.out _).mono ?_); rintro E1 w1 ⟨rfl, rfl⟩)
        | (go_at_call 143; (with_reducible refine (HR'.out _).mono ?_); rintro E1 w1 ⟨rfl, rfl⟩)
        | (go_at_call 151; (with_reducible refine (HB.out _).mono ?_); rintro E1 w1 ⟨rfl, rfl⟩))
      go_ret3
      exact ⟨_, by rw [hG.out]; rfl, by rw [hr0'.out]; rfl, Below.refl _ _⟩
    · obtain ⟨r0, n0, f0⟩ := pf_near (show 0 < d by omega) (show d < 18446744073709551616 by omega) (show -345 ≤ p by omega) (show p ≤ 310 by omega)
      obtain ⟨r1, n1, f1⟩ := pf_near (show 0 < d + 1 by omega) (show d + 1 < 18446744073709551616 by omega) (show -345 ≤ p by omega) (show p ≤ 310 by omega)
      have fe := feq_words hsg.out n0.le n1.le
      rw [← (f0 S hsg.out).1, ← (f1 S hsg.out).1] at fe
      have f0' := hid (f0 S hsg.out)
      have f1' := hid (f1 S hsg.out)
      have hts := hid (fun he => trunc_near (d := d) (p := p) (show 0 < d by omega) (show d + 1 < 18446744073709551616 by omega) (by omega) (by omega) S hsg.out he (tenD_pos _) hr'.out hlo.out hhi.out)
      have HN := hid fun w h1' h2' => parseFloat64_any d (by omega) (by omega) p (by omega) (by omega) S hsg.out w h1' h2'
      have HN1 := hid fun w h1' h2' => parseFloat64_any (d + 1) (by omega) (by omega) p (by omega) (by omega) S hsg.out w h1' h2'
      have hfar := hid (fun (h : 291 ≤ p) => And.intro (far_inf (show 10 ^ 18 ≤ d by omega) (show d < 18446744073709551616 by omega) h (by omega) hsg.out) (far_inf (show 10 ^ 18 ≤ d + 1 by omega) (show d + 1 < 18446744073709551616 by omega) h (by omega) hsg.out))
      have hnear := hr'.out
      have hS1 := hid (And.intro n0.le n1.le)
      clear n0 n1 f0 f1 hlo hhi hr'
      by_cases he : r0 = r1
      · have feq' : feq (val (pfN d p S)) (val (pfN (d + 1) p S)) = true := by rw [fe, decide_eq_true he]
        obtain ⟨q1, q2⟩ := hts.out (by rw [f0'.out.1, f1'.out.1, he])
        have q1' := hid q1
        have q2' : Hid (pfG d p S = g) := hid (by rw [q2, hg'.out]; rfl)
        obtain ⟨x0, hx0⟩ : ∃ x0, x0 = pfN d p S := ⟨_, rfl⟩
        obtain ⟨x1, hx1⟩ : ∃ x1, x1 = pfN (d + 1) p S := ⟨_, rfl⟩
        rw [← hx0, ← hx1] at feq'
        have hx0' := hid hx0
        have HN2 : Hid (∀ w, PTab w → 11 < w.heap.size → Calls Tryz.prog 154 #[.int .u64 d, .int .i64 p, .int .u64 S] w fun e w' => e = .returned (.tuple #[.float .f64 x0, g]) ∧ Below w.heap.size w w') := hid (fun w a b => by have := HN.out w a b; rw [← hx0, q2'.out] at this; exact this)
        have HN3 : Hid (∀ w, PTab w → 11 < w.heap.size → Calls Tryz.prog 154 #[.int .u64 ((d : Int) + 1), .int .i64 p, .int .u64 S] w fun e w' => e = .returned (.tuple #[.float .f64 x1, pfG (d + 1) p S]) ∧ Below w.heap.size w w') := hid (fun w a b => by have := HN1.out w a b; rw [← hx1, Int.natCast_add] at this; exact this)
        clear fe he q1 q2 hnear hx0 hx1 HN HN1 hts hfar f0' f1'
        go_enter Tryz.func130, Tryz.ntmps130
        go_wp2_with (first
          | (go_at_call 142; (with_reducible refine (HS'.out _).mono ?_); rintro E1 w1 ⟨rfl, rfl⟩)
          | (go_at_call 143; (with_reducible refine (HR'.out _).mono ?_); rintro E1 w1 ⟨rfl, rfl⟩)
          | (go_at_call 151; (with_reducible refine (HB.out _).mono ?_); rintro E1 w1 ⟨rfl, rfl⟩)
          | (go_at_call 154; first | ((with_reducible refine (HN2.out _ hP hBB).mono ?_); rintro E1 w3 ⟨rfl, hb3⟩) | ((with_reducible refine (HN3.out _ (hP.below hb3) (Nat.lt_of_lt_of_le hBB hb3.size)).mono ?_); rintro E1 w4 ⟨rfl, hb4⟩)))
        go_ret3
        exact ⟨x0, rfl, by rw [hx0'.out, q1'.out], hb3.trans (hb4.mono hb3.size)⟩
      · have feq' : feq (val (pfN d p S)) (val (pfN (d + 1) p S)) = false := by rw [fe, decide_eq_false he]
        have hp290 : p ≤ 290 := by
          apply Int.not_lt.1
          intro hlt
          apply he
          have h3 := hfar.out (by omega)
          rw [f0'.out.1, f1'.out.1] at h3
          omega
        have hD0 : D0 t dp0 := ⟨hn'.out, h64, by have := hp'.out; omega, by have := hp'.out; omega⟩
        have HF := hid fun (w : World) (b B pb po cb co : Nat) (h1 : DcT w b t dp0 neg) (h2 : STab w B pb po cb co) (h3 : B ≤ b) => floatBits_any h1 hD0 h2 h3 r hnear
        rw [← hS.out] at HF
        have hrle := hnear.le
        obtain ⟨x0, hx0⟩ : ∃ x0, x0 = pfN d p S := ⟨_, rfl⟩
        obtain ⟨x1, hx1⟩ : ∃ x1, x1 = pfN (d + 1) p S := ⟨_, rfl⟩
        rw [← hx0, ← hx1] at feq'
        have HN2 : Hid (∀ w, PTab w → 11 < w.heap.size → Calls Tryz.prog 154 #[.int .u64 d, .int .i64 p, .int .u64 S] w fun e w' => e = .returned (.tuple #[.float .f64 x0, pfG d p S]) ∧ Below w.heap.size w w') := hid (fun w a b => by have := HN.out w a b; rw [← hx0] at this; exact this)
        have HN3 : Hid (∀ w, PTab w → 11 < w.heap.size → Calls Tryz.prog 154 #[.int .u64 ((d : Int) + 1), .int .i64 p, .int .u64 S] w fun e w' => e = .returned (.tuple #[.float .f64 x1, pfG (d + 1) p S]) ∧ Below w.heap.size w w') := hid (fun w a b => by have := HN1.out w a b; rw [← hx1, Int.natCast_add] at this; exact this)
        clear fe he hnear hx0 hx1 HN HN1 hts hfar f0' f1' hD0 hp290
        go_enter Tryz.func130, Tryz.ntmps130
        go_upto_region 29 with (first
          | (go_at_call 142; (with_reducible refine (HS'.out _).mono ?_); rintro E1 w1 ⟨rfl, rfl⟩)
          | (go_at_call 143; (with_reducible refine (HR'.out _).mono ?_); rintro E1 w1 ⟨rfl, rfl⟩)
          | (go_at_call 151; (with_reducible refine (HB.out _).mono ?_); rintro E1 w1 ⟨rfl, rfl⟩)
          | (go_at_call 154; first | ((with_reducible refine (HN2.out _ hP hBB).mono ?_); rintro E1 w3 ⟨rfl, hb3⟩) | ((with_reducible refine (HN3.out _ (hP.below hb3) (Nat.lt_of_lt_of_le hBB hb3.size)).mono ?_); rintro E1 w4 ⟨rfl, hb4⟩)))
        have hb34 := hb3.trans (hb4.mono hb3.size)
        have hZ := dc_new w4
        have hbz := hb34.alloc hb34.size (.cells Tryz.zeroCells201 201)
        obtain ⟨pb, po, cb, co, hTz0⟩ := hT2'.out
        have hTq := hTz0.belowB hbz
        obtain ⟨bz, hbze⟩ : ∃ bz, bz = w4.heap.size := ⟨_, rfl⟩
        have hbzle := hb34.size
        rw [← hbze] at hbzle
        obtain ⟨wz, hwz⟩ : ∃ wz, wz = w4.alloc (.cells Tryz.zeroCells201 201) := ⟨_, rfl⟩
        rw [← hbze] at hZ
        rw [← hwz] at hZ hbz hTq
        have HDz := hid (HD'.out wz bz hZ)
        rw [← hbze, ← hwz]
        have hea := hid (ext_all s)
        have hb13 : 13 < bz := by have := hTq.hB; omega
        have hrl' := hid hrle
        clear hwz hbze hb3 hb4 hb34 hTz0 HN2 HN3 feq' hT2' hP hO HS' HR' HB hrle hd0 hd1 o1 o2 o3 h1 h2 e0 hS1
        go_upto_region 31 with (first
          | (go_at_call 149; first | ((with_reducible refine HDz.out.mono ?_); rintro E5 w5 ⟨rfl, hD5, hG5⟩) | (rw [hea.out]; (with_reducible refine HDz.out.mono ?_); rintro E5 w5 ⟨rfl, hD5, hG5⟩)))
        have HFz := hid (HF.out w5 bz _ _ _ _ _ hD5 (hTq.gr hbzle hG5) hbzle)
        have hb5 := gr_below hG5 hbzle (Nat.le_trans hbzle (Nat.le_of_lt hZ.lt))
        have hb6 := hbz.trans hb5
        by_cases hinf : 9218868437227405312 ≤ r
        · have hG : Hid (g = .iface 155 (.int .i64 1)) := hid (by rw [hg'.out]; unfold rngG; rw [if_pos hinf])
          have HF2 : Hid (Calls Tryz.prog 150 #[.pointer (some ⟨bz, 0, none⟩), .pointer (some ⟨6, 0, none⟩)] w5 fun E w' => E = .returned (.tuple #[.int .u64 ((S + r : Nat) : Int), .bool true]) ∧ w5.grownBy w' (some bz)) := hid (by have := HFz.out; rwa [decide_eq_true hinf] at this)
          clear hinf HF HFz HD' HDz hZ hTq
          go_wp2_with (first
            | (go_at_call 150; (with_reducible refine HF2.out.mono ?_); rintro E6 w6 ⟨rfl, hG6⟩))
          go_ret3
          exact ⟨S + r, by rw [hG.out]; rfl, rfl, hb6.trans (gr_below hG6 hbzle hb6.size)⟩
        · have hG : Hid (g = .nilIface) := hid (by rw [hg'.out]; unfold rngG; rw [if_neg hinf])
          have HF2 : Hid (Calls Tryz.prog 150 #[.pointer (some ⟨bz, 0, none⟩), .pointer (some ⟨6, 0, none⟩)] w5 fun E w' => E = .returned (.tuple #[.int .u64 ((S + r : Nat) : Int), .bool false]) ∧ w5.grownBy w' (some bz)) := hid (by have := HFz.out; rwa [decide_eq_false hinf] at this)
          clear hinf HF HFz HD' HDz hZ hTq
          go_wp2_with (first
            | (go_at_call 150; (with_reducible refine HF2.out.mono ?_); rintro E6 w6 ⟨rfl, hG6⟩))
          go_ret3
          exact ⟨S + r, by rw [hG.out]; rfl, rfl, hb6.trans (gr_below hG6 hbzle hb6.size)⟩
end Go.Proofs.YtfalbdlfopfgcaaGreatDoor

