/- TokensJoins, walked: the rows of words are made. Conditions: the argument's rows are not too long. How the argument of TokensJoins is opened: a slice of slices of texts, its bulk. No condition. -/
import Derived.Test.YtfalbdlfopfgcaaGreatDoorTBldM
import Derived.Test.YtfalbdlfopfgcaaGreatDoorVh
import Derived.SliceStrings
import Derived.Deep.Slices
namespace Go.Proofs.YtfalbdlfopfgcaaGreatDoor
open Go.RowKit

/-- A row of rows of texts, as it comes in. -/
def TxAt (w : World) (V : Value) (rows : List (List (List UInt8))) : Prop := ∃ a cap, V = .slice a rows.length cap ∧ ∀ i r, rows[i]? = some r → ∃ b off ai ci, a = some ⟨b, off, none⟩ ∧ w.cell? ⟨b, off + i, none⟩ = some (.slice ai r.length ci) ∧
  ∀ k t, r[k]? = some t → ∃ bi oi, ai = some ⟨bi, oi, none⟩ ∧ w.cell? ⟨bi, oi + k, none⟩ = some (.string (mk t))
theorem TxAt.below {w w' : World} {V : Value} {rows : List (List (List UInt8))} (h : TxAt w V rows) (hb : Below w.heap.size w w') : TxAt w' V rows := by
  obtain ⟨a, cap, e, h⟩ := h
  refine ⟨a, cap, e, fun i r hr => ?_⟩
  obtain ⟨b, off, ai, ci, e1, h1, h2⟩ := h i r hr
  refine ⟨b, off, ai, ci, e1, (hb.cell (World.block_lt_of_cell? _ _ h1)).trans h1, fun k t ht => ?_⟩
  obtain ⟨bi, oi, e2, h3⟩ := h2 k t ht
  exact ⟨bi, oi, e2, (hb.cell (World.block_lt_of_cell? _ _ h3)).trans h3⟩
def tokR (i : Nat) (r : List (List UInt8)) : List Tok := r.mapIdx fun k t => (t, ((7 * i : Nat) : Int), -(k : Int))
def tokRs (rows : List (List (List UInt8))) : List (List Tok) := rows.mapIdx tokR
theorem tokR_len (i : Nat) (r : List (List UInt8)) : (tokR i r).length = r.length := by simp [tokR]
theorem tokRs_len (rows : List (List (List UInt8))) : (tokRs rows).length = rows.length := by simp [tokRs]
theorem tokR_at {i : Nat} {r : List (List UInt8)} {k : Nat} {t : List UInt8} (h : r[k]? = some t) : (tokR i r)[k]? = some (t, ((7 * i : Nat) : Int), -(k : Int)) := by
  unfold tokR
  rw [List.getElem?_mapIdx, h]
  rfl
theorem tokRs_at {rows : List (List (List UInt8))} {i : Nat} {r : List (List UInt8)} (h : rows[i]? = some r) : (tokRs rows)[i]? = some (tokR i r) := by
  unfold tokRs
  rw [List.getElem?_mapIdx, h]
  rfl
theorem tokR_snoc {i : Nat} {r : List (List UInt8)} {k : Nat} {t : List UInt8} (h : r[k]? = some t) : tokR i (r.take (k + 1)) = tokR i (r.take k) ++ [(t, ((7 * i : Nat) : Int), -(k : Int))] := by
  have hk := (List.getElem?_eq_some_iff.1 h).1
  unfold tokR
  rw [take_one h, List.mapIdx_append]
  simp [List.length_take, Nat.min_eq_left (Nat.le_of_lt hk)]
theorem tokRs_snoc {rows : List (List (List UInt8))} {i : Nat} {r : List (List UInt8)} (h : rows[i]? = some r) : tokRs (rows.take (i + 1)) = tokRs (rows.take i) ++ [tokR i r] := by
  have hk := (List.getElem?_eq_some_iff.1 h).1
  unfold tokRs
  rw [take_one h, List.mapIdx_append]
  simp [List.length_take, Nat.min_eq_left (Nat.le_of_lt hk)]
theorem cellsOf_snoc (r : List Tok) (t : Tok) : cellsOf (r ++ [t]) = cellsOf r ++ tokV t := by simp [cellsOf]

def JMkO (w : World) (rows : List (List (List UInt8))) (V i : Value) (wr : World) : Prop := ∃ (n : Nat) (vs : List Value), i = .int .i64 n ∧ n ≤ rows.length ∧ Grid wr w.heap.size V (tokRs (rows.take n)) vs ∧ Below w.heap.size w wr
def JMkI (w1 : World) (i : Nat) (r : List (List UInt8)) (line k : Value) (wr : World) : Prop := ∃ n : Nat, k = .int .i64 n ∧ n ≤ r.length ∧ wr.ownsRow w1.heap.size 33 3 line n (cellsOf (tokR i (r.take n))) ∧ Below w1.heap.size w1 wr
theorem own_slN {w : World} {base e size : Nat} {v : Value} {n : Nat} {xs : List Value} (h : w.ownsRow base e size v n xs) : ∃ a cap, v = .slice a n cap := by
  rcases h.2 with ⟨rfl, h0⟩ | ⟨g, cap, cur, rfl, _⟩
  · exact ⟨none, 0, by rw [h0]⟩
  · exact ⟨_, _, rfl⟩
theorem cell_st {w w' : World} {a : Addr} {v : Value} (h : w.cell? a = some v) (hb : Below w.heap.size w w') : w'.cell? a = some v := (hb.cell (World.block_lt_of_cell? _ _ h)).trans h
def JNo (wb : World) (n : Nat) (i : Value) (wr : World) : Prop := ∃ k : Nat, i = .int .i64 k ∧ k ≤ n ∧ Below wb.heap.size wb wr
/-- What both Numbers hand back of a word: the same. -/
def RetNn (n : Nat) (x y : Int) (w : World) (e : Ending) (w' : World) : Prop := e = .returned (.tuple #[.float .f64 n, .agg #[.int .i64 x, .int .i64 y]]) ∧ Below w.heap.size w w'
theorem retNn {s : ByteArray} {n : Nat} {w : World} {e : Ending} {w' : World} (h1 : (numR (bys s)).1 = some n) (h : RetNum w (numR (bys s)).1 (numR (bys s)).2.1 (numR (bys s)).2.2 e w') : RetNn n (numR (bys s)).2.1 (numR (bys s)).2.2 w e w' := by
  obtain ⟨r, h2, h3, h4⟩ := h
  rw [h1] at h3
  rw [val_inj h3] at h2
  exact ⟨h2, h4⟩

set_option maxRecDepth 100000 in
set_option maxHeartbeats 8000000 in
theorem joins_walk (w : World) (hT : TabsP w) (V : Value) (rows : List (List (List UInt8))) (hV : TxAt w V rows) (hn : rows.length ≤ 2000000) (hm : ∀ r ∈ rows, r.length ≤ 2000000) (hlen : (joinT (tokRs rows)).length ≤ 140000000000000) :
    Calls Tryz.prog 6 #[V] w fun e w' => e = .returned (.bool true) ∧ Below w.heap.size w w' := by
  have HT := hid hT
  have HM := hid hm
  have HL := hid hlen
  obtain ⟨av, cv, rfl, hV2⟩ := id hV
  have HV := hid hV
  clear hT hV hV2 hm hlen
  go_enter Tryz.func6, Tryz.ntmps6
  go_wp2
  go_loopw [3, 4, 5, 6] (fun V i _ _ wr => JMkO w rows V i wr) (fun _ i _ _ _ => rows.length + 1 - (intOf i).toNat)
  case atStart => exact ⟨0, [], rfl, Nat.zero_le _, Grid.nil _ _, Below.refl _ _⟩
  case round =>
    obtain ⟨w1, rfl⟩ : ∃ w1, w1 = wr := ⟨_, rfl⟩
    obtain ⟨i, vs, rfl, hi, hG, hb⟩ := hrel
    have hz := hb.size
    by_cases hil : i < rows.length
    · obtain ⟨r, hr⟩ : ∃ r, rows[i]? = some r := ⟨rows[i]'hil, by simp⟩
      have hrl : r.length ≤ 2000000 := HM.out r (List.mem_of_getElem? hr)
      obtain ⟨_, _, e0, hV2⟩ := HV.out.below hb
      cases e0
      obtain ⟨b, off, ai, ci, rfl, hc, -⟩ := hV2 i r hr
      have HR := hid hr
      have HG := hid hG
      clear hV2 hr hG
      go_wp2
      go_loopw [5, 6] (fun line k wr => JMkI w1 i r line k wr) (fun _ k _ => r.length + 1 - (intOf k).toNat)
      case atStart => exact ⟨0, rfl, Nat.zero_le _, World.ownsRow_nil _ _ _ _, Below.refl _ _⟩
      case round =>
        obtain ⟨k, rfl, hk, hown, hb2⟩ := hrel
        have hz2 := hb2.size
        clear hc
        obtain ⟨_, _, e0, hV2⟩ := HV.out.below (bl2 hb hb2)
        cases e0
        obtain ⟨b2, off2, ai2, ci2, e0, hc, hcc⟩ := hV2 i r HR.out
        cases e0
        by_cases hkl : k < r.length
        · obtain ⟨t, ht⟩ : ∃ t, r[k]? = some t := ⟨r[k]'hkl, by simp⟩
          obtain ⟨bi, oi, rfl, hct⟩ := hcc k t ht
          obtain ⟨T, hTT⟩ : ∃ T, T = mk t := ⟨_, rfl⟩
          rw [← hTT] at hct
          have HTT := hid hTT
          have HK := hid ht
          clear hV2 hcc ht hTT
          go_wp2_with (at_builtin; go_loud (refine wpList_appS rfl _ _ 35 rfl w1.heap.size 33 _ 3 32 (by decide) Tryz.underlying35 info_tok tok_z _ k _ [.string _, .int .i64 _, .int .i64 _] rfl rfl rfl (by simp [Value.oneCell']) (by exact hown) (by first | omega | (simp; omega)) (by first | omega | (simp; omega)) (by first | omega | (simp; omega)) ?_); intro v' w' h1 h2 h3)
          go_roundw
          case rel => exact ⟨k + 1, by go_num, hkl, by rw [tokR_snoc HK.out, cellsOf_snoc]; unfold tokV; rw [← HTT.out]; exact h1, hb2.trans h2⟩
          case measure => simp [intOf] <;> omega
        · obtain rfl : k = r.length := by omega
          rw [List.take_length] at hown
          obtain ⟨la, lc, rfl⟩ := own_slN hown
          rw [← tokR_len i r] at hown
          have hsn : (tokRs (rows.take i)).length ≤ 2000000 := by rw [tokRs_len, List.length_take]; omega
          go_wp2_with (at_builtin; go_loud (refine wpList_appG rfl _ _ 22 rfl Tryz.underlying22 w1 w.heap.size u3 _ vs HG.out hz hb2 (.slice la r.length lc) (tokR i r) (by rw [tokR_len] at hown ⊢; exact hown) rfl rfl rfl hsn ?_); intro V' w' hG' hb' hz')
          go_roundw
          case rel => exact ⟨i + 1, vs ++ [_], by go_num, hil, by rw [tokRs_snoc HR.out]; exact hG', hb.trans hb'⟩
          case measure => simp [intOf] <;> omega
    · obtain rfl : i = rows.length := by omega
      rw [List.take_length] at hG
      obtain ⟨J, hJ⟩ : ∃ J, J = mk (joinT (tokRs rows)) := ⟨_, rfl⟩
      have HJ1 : Hid (∀ w' : World, Below w1.heap.size w1 w' → Calls Tryz.prog 28 #[u3] w' fun e w'' => e = .returned (.string J) ∧ Below w'.heap.size w' w'') := hid fun w' h => by rw [hJ]; exact Join_any w' w.heap.size u3 (tokRs rows) vs (hG.below h) HL.out
      have HJ2 : Hid (∀ w' : World, Below w1.heap.size w1 w' → Calls Tryz.prog 29 #[u3] w' fun e w'' => e = .returned (.string J) ∧ w'' = w') := hid fun w' h => by rw [hJ]; exact rJoin_any w' w.heap.size u3 (tokRs rows) vs (hG.below h) HL.out
      have HG := hid hG
      clear hG hJ
      go_upto_region 14 with (first
        | (go_at_call 28; (with_reducible refine (HJ1.out _ (Below.refl _ _)).mono ?_); rintro e w2 ⟨rfl, hb2⟩)
        | (go_at_call 29; (with_reducible refine (HJ2.out _ hb2).mono ?_); rintro e w3 ⟨rfl, rfl⟩)
        | (go_at_call 11; (with_reducible refine (lives_any _).mono ?_); rintro e w4 ⟨rfl, hb4⟩))
      have b4 : Below w1.heap.size w1 w4 := bl2 hb2 hb4
      have B4 := hid (bl2 hb b4)
      have G4 := hid (HG.out.below b4)
      obtain ⟨ga, gc, hVA⟩ := gridV HG.out
      rw [tokRs_len] at hVA
      subst hVA
      clear b4 hb2 hb4 hb HJ1 HJ2 HG hz hil hi
      go_wp2
      go_loopw [8, 9] (fun i _ wr => JNo w4 rows.length i wr) (fun i _ _ => rows.length + 1 - (intOf i).toNat)
      case atStart => exact ⟨0, rfl, Nat.zero_le _, Below.refl _ _⟩
      case round =>
        obtain ⟨i, rfl, hi, hb5⟩ := hrel
        by_cases hil : i < rows.length
        · obtain ⟨r, hr⟩ : ∃ r, rows[i]? = some r := ⟨rows[i]'hil, by simp⟩
          have hrl : r.length ≤ 2000000 := HM.out r (List.mem_of_getElem? hr)
          obtain ⟨_, _, e0, hV2⟩ := HV.out.below (bl2 B4.out hb5)
          cases e0
          obtain ⟨b, off, ai, ci, rfl, hc, -⟩ := hV2 i r hr
          have HR := hid hr
          clear hV2 hr
          go_wp2
          go_loopw [9] (fun k wr => JNo w4 r.length k wr) (fun k _ => r.length + 1 - (intOf k).toNat)
          case atStart => exact ⟨0, rfl, Nat.zero_le _, hb5⟩
          case round =>
            obtain ⟨k, rfl, hk, hb6⟩ := hrel
            clear hc hb5
            obtain ⟨_, _, e0, hV2⟩ := HV.out.below (bl2 B4.out hb6)
            cases e0
            obtain ⟨b2, off2, ai2, ci2, e0, hc, hcc⟩ := hV2 i r HR.out
            cases e0
            by_cases hkl : k < r.length
            · obtain ⟨t, ht⟩ : ∃ t, r[k]? = some t := ⟨r[k]'hkl, by simp⟩
              obtain ⟨bi, oi, rfl, hct⟩ := hcc k t ht
              obtain ⟨g1, cap1, ad1, _, sc1, e1, _, hg1, hv1, ⟨_, hl1, hl2⟩, ht1⟩ := gridAt (G4.out.below hb6) (tokRs_at HR.out)
              rw [tokRs_len] at e1
              cases e1
              rw [tokR_len] at hg1
              obtain ⟨ba, rfl, _, x0, x1, x2⟩ := ht1 k _ (tokR_at ht)
              obtain ⟨T, hTT⟩ : ∃ T, T = mk t := ⟨_, rfl⟩
              rw [← hTT] at hct
              replace x0 : wr.cell? ⟨ba, k * 3, none⟩ = some (.string T) := by rw [hTT]; exact x0
              replace x1 : wr.cell? ⟨ba, k * 3 + 1, none⟩ = some (.int .i64 (7 * (i : Int))) := x1
              replace x2 : wr.cell? ⟨ba, k * 3 + 2, none⟩ = some (.int .i64 (-(k : Int))) := x2
              obtain ⟨n, hn1, hn2, hn3⟩ := numR_some (bys T)
              obtain ⟨x, hx⟩ : ∃ x, x = (numR (bys T)).2.1 := ⟨_, rfl⟩
              obtain ⟨y, hy⟩ : ∃ y, y = (numR (bys T)).2.2 := ⟨_, rfl⟩
              have HN1 : Hid (∀ w', Below wr.heap.size wr w' → Calls Tryz.prog 9 #[.agg #[.string T, .int .i64 (7 * (i : Int)), .int .i64 (-(k : Int))]] w' (RetNn n x y w')) := hid fun w' h => by
                rw [hx, hy]
                exact (Number_of T _ _ _ _ _ w' (fun w'' hw => Parse_any T w'' (HT.out.below (bl2 (bl2 B4.out hb6) (bl2 h hw))))).mono fun _ _ h => retNn hn1 h
              have HN2 : Hid (∀ w', Calls Tryz.prog 30 #[.agg #[.string T, .int .i64 (7 * (i : Int)), .int .i64 (-(k : Int))]] w' (RetNn n x y w')) := hid fun w' => by
                rw [hx, hy]
                exact (rNumber_of T _ _ _ _ _ w' (fun w'' _ => rParse_any T w'')).mono fun _ _ h => retNn hn1 h
              have HS := hid fun w' => sameReal_any n hn3 w'
              clear hV2 hcc ht1 hv1 hl1 hl2 ht hTT hx hy hn1 hn2 hn3
              go_upto_region 21 with (go_at_call 9; go_loud ((with_reducible refine (HN1.out _ (Below.refl _ _)).mono ?_); rintro e w5 ⟨rfl, hb7⟩))
              have F1 := FaultAt.new w5 x y
              have hb8 : Below wr.heap.size wr (w5.alloc (.cells #[.int .i64 x, .int .i64 y] 25)) := bla _ hb7
              obtain ⟨w6, hw6⟩ : ∃ w6, w6 = w5.alloc (.cells #[.int .i64 x, .int .i64 y] 25) := ⟨_, rfl⟩
              rw [← hw6] at F1 hb8 ⊢
              have p0 := cell_st hg1 hb8
              have p1 := cell_st x0 hb8
              have p2 := cell_st x1 hb8
              have p3 := cell_st x2 hb8
              have p4 := cell_st hc hb8
              have p5 := cell_st hct hb8
              clear hw6 hb7 hg1 x0 x1 x2 hc hct
              go_upto_region 22 with (go_at_call 30; go_loud ((with_reducible refine (HN2.out _).mono ?_); rintro e w7 ⟨rfl, hb9⟩))
              have F2 := FaultAt.new w7 x y
              have hb10 : Below w6.heap.size w6 (w7.alloc (.cells #[.int .i64 x, .int .i64 y] 25)) := bla _ hb9
              obtain ⟨w8, hw8⟩ : ∃ w8, w8 = w7.alloc (.cells #[.int .i64 x, .int .i64 y] 25) := ⟨_, rfl⟩
              rw [← hw8] at F2 hb10 ⊢
              have q0 := cell_st p0 hb10
              have q1 := cell_st p1 hb10
              have q2 := cell_st p2 hb10
              have q3 := cell_st p3 hb10
              have q4 := cell_st p4 hb10
              have q5 := cell_st p5 hb10
              have f0 := cell_st F1.c0 hb10
              have f1 := cell_st F1.c1 hb10
              have f2 := F2.c0
              have f3 := F2.c1
              have HB := hid (bl2 hb6 (bl2 hb8 hb10))
              clear hw8 hb9 p0 p1 p2 p3 p4 p5 F1 F2 hb8 hb10 HN1 HN2
              go_quiet ((go_at_call 31; with_reducible exact Calls.quiet_of_same (HS.out _)))
              go_wp2
              go_roundw
              case rel => exact ⟨k + 1, by go_num, hkl, by have := HB.out; (repeat (first | with_reducible exact Below.refl _ _ | with_reducible refine bla _ ?_ | with_reducible refine bld ?_ | with_reducible refine bldn ?_ _ | (with_reducible refine bl2 ?_ (by assumption))))⟩
              case measure => simp [intOf] <;> omega
            · obtain rfl : k = r.length := by omega
              go_wp2
              go_roundw
              case rel => exact ⟨i + 1, by go_num, hil, hb6⟩
              case measure => simp [intOf] <;> omega
        · obtain rfl : i = rows.length := by omega
          go_wp2
          go_ret
          exact ⟨rfl, bl2 B4.out hb5⟩
end Go.Proofs.YtfalbdlfopfgcaaGreatDoor

namespace Go.Proofs.YtfalbdlfopfgcaaGreatDoor
open Go.RowKit Go.ChangeShapes Go.WideShapes

/-- What a row of texts weighs: each letter one, each text one, the row one. -/
def rowW (r : List (List UInt8)) : Nat := (r.map fun t => t.length + 1).sum + 1
def tokW (r : List Tok) : Nat := (r.map fun t => t.1.length + 1).sum + 1
theorem tokR_w (i : Nat) (r : List (List UInt8)) : tokW (tokR i r) = rowW r := by
  unfold tokW rowW
  congr 2
  apply List.ext_getElem?
  intro k
  rw [List.getElem?_map, List.getElem?_map]
  cases h : r[k]? with
  | none =>
    have : (tokR i r)[k]? = none := by unfold tokR; rw [List.getElem?_mapIdx, h]; rfl
    rw [this]
    rfl
  | some t => rw [tokR_at h]; rfl
theorem tokRs_w (rows : List (List (List UInt8))) : (tokRs rows).map tokW = rows.map rowW := by
  apply List.ext_getElem?
  intro k
  rw [List.getElem?_map, List.getElem?_map]
  cases h : rows[k]? with
  | none =>
    have : (tokRs rows)[k]? = none := by unfold tokRs; rw [List.getElem?_mapIdx, h]; rfl
    rw [this]
    rfl
  | some t => rw [tokRs_at h]; exact congrArg some (tokR_w k t)
theorem rest_w (r : List Tok) : (r.flatMap fun t => 32 :: t.1).length = (r.map fun t => t.1.length + 1).sum := by
  induction r with
  | nil => rfl
  | cons t r ih => rw [List.flatMap_cons, List.length_append, ih, List.map_cons, List.sum_cons, List.length_cons]
theorem rowJ_w (r : List Tok) : (rowJ r).length + 1 ≤ tokW r := by
  cases r with
  | nil => exact Nat.le_refl _
  | cons t r =>
    unfold rowJ tokW
    rw [List.length_append, rest_w, List.map_cons, List.sum_cons]
    omega
theorem joinT_w (R : List (List Tok)) : (joinT R).length ≤ (R.map tokW).sum := by
  induction R with
  | nil => exact Nat.le_refl _
  | cons r R ih =>
    have h := rowJ_w r
    unfold joinT at ih ⊢
    rw [List.flatMap_cons, List.length_append, List.length_append, List.map_cons, List.sum_cons, List.length_singleton]
    omega
theorem sum_mem {l : List Nat} {x : Nat} (h : x ∈ l) : x ≤ l.sum := by
  induction l with
  | nil => cases h
  | cons y l ih =>
    rw [List.sum_cons]
    rcases List.mem_cons.1 h with rfl | h
    · omega
    · have := ih h; omega
theorem sum_len {α : Type} (l : List α) (f : α → Nat) (hf : ∀ x, 1 ≤ f x) : l.length ≤ (l.map f).sum := by
  induction l with
  | nil => exact Nat.le_refl _
  | cons y l ih =>
    have := hf y
    rw [List.map_cons, List.sum_cons, List.length_cons]
    omega
theorem row_len (r : List (List UInt8)) : r.length ≤ rowW r := by
  have := sum_len r (fun t => t.length + 1) (fun x => Nat.le_add_left 1 _)
  unfold rowW
  omega

section
variable {H : Type} {enc : TypeId × Value → H} {W : World} {base : Nat} {held : Bool}
theorem bulk_app (l r : List (DataW H)) : Rows.uptoBulkAll (l ++ r) = Rows.uptoBulkAll l + Rows.uptoBulkAll r := by
  induction l with
  | nil => simp [Rows.uptoBulkAll]
  | cons x l ih => simp only [List.cons_append, Rows.uptoBulkAll, ih]; omega
theorem bulk_strs (ss : List ByteArray) : Rows.uptoBulkAll (strs (H := H) ss) = ((ss.map fun s => s.data.toList).map fun t => t.length + 1).sum := by
  unfold strs
  induction ss with
  | nil => rfl
  | cons s ss ih => simp only [List.map_cons, Rows.uptoBulkAll, Rows.uptoBulk, ih, List.sum_cons]
theorem mk_data (s : ByteArray) : mk s.data.toList = s := by
  cases s
  simp [mk]
/-- A row of texts, as it comes in. -/
theorem open_texts1 {fuel : Nat} {cs : List Value} {x : DataW H × List MemPlace} (h : DataW.trod enc Tryz.prog W base (fun _ => true) held fuel 55 cs = some x) :
    ∃ (q : Value × List (List UInt8)), cs = [q.1] ∧ (∃ ai ci, q.1 = .slice ai q.2.length ci ∧ ∀ k t, q.2[k]? = some t → ∃ bi oi, ai = some ⟨bi, oi, none⟩ ∧ W.cell? ⟨bi, oi + k, none⟩ = some (.string (mk t))) ∧ rowW q.2 ≤ Rows.uptoBulk x.1 := by
  rcases open_strings Tryz.underlying55 Tryz.underlying9 (by kernel_rfl) h with ⟨rfl, rfl⟩ | ⟨a, len, cap, ss, rfl, -, hl, -, hz, rfl, hcell, -⟩
  · exact ⟨(_, []), rfl, ⟨_, _, rfl, fun k t ht => by simp at ht⟩, by simp [rowW, Rows.uptoBulk]⟩
  · rw [if_pos rfl] at hz
    refine ⟨(_, (ss.take len).map fun s => s.data.toList), rfl, ⟨some a, cap, ?_, fun k t ht => ?_⟩, ?_⟩
    · simp only [List.length_map, List.length_take]
      rw [Nat.min_eq_left (by omega)]
    · rw [List.getElem?_map] at ht
      obtain ⟨s, hs, rfl⟩ := Option.map_eq_some_iff.1 ht
      have hk := (List.getElem?_eq_some_iff.1 hs).1
      rw [List.length_take] at hk
      rw [List.getElem?_take_of_lt (by omega)] at hs
      have h1 := hcell k (by omega)
      rw [List.getD_eq_getElem?_getD, hs] at h1
      obtain ⟨b, off, spot⟩ := a
      have hspot : spot = none := World.cell?_spot (a := ⟨b, off, spot⟩) (v := .string (ss.getD 0 ByteArray.empty)) (by have := hcell 0 (by omega); simpa [Addr.add] using this)
      subst hspot
      rw [Go.WideShapes.add_plain] at h1
      rw [mk_data]
      exact ⟨b, off, rfl, h1⟩
    · simp only [Rows.uptoBulk, bulk_strs, rowW]
      omega
theorem bulk_range {D : Nat → DataW H} {f : Nat → Nat} {n : Nat} (h : ∀ i, i < n → f i ≤ Rows.uptoBulk (D i)) : ((List.range n).map f).sum ≤ Rows.uptoBulkAll ((List.range n).map D) := by
  induction n with
  | zero => exact Nat.le_refl _
  | succ n ih =>
    have h1 := ih fun i hi => h i (by omega)
    have h2 := h n (by omega)
    rw [List.range_succ, List.map_append, List.map_append, List.sum_append, bulk_app]
    simp only [List.map_cons, List.map_nil, List.sum_cons, List.sum_nil, Rows.uptoBulkAll]
    omega
theorem open_texts {fuel : Nat} {a : Option Addr} {len cap : Nat} {x : DataW H × List MemPlace} (h : DataW.trod enc Tryz.prog W base (fun _ => true) held fuel 54 (Value.slice a len cap).cells.toList = some x) :
    ∃ rows, TxAt W (.slice a len cap) rows ∧ (rows.map rowW).sum ≤ Rows.uptoBulk x.1 := by
  rcases Go.Deep.open_slice Tryz.underlying54 h with ⟨hcs, rfl⟩ | ⟨ad, len', cap', m, n, D, Pl, hcs, -, hl, -, hm, rfl, hc⟩
  · simp [Value.cells] at hcs
    obtain ⟨rfl, rfl, rfl⟩ := hcs
    exact ⟨[], ⟨none, 0, rfl, fun i r hr => by simp at hr⟩, by simp [Rows.uptoBulk]⟩
  · simp [Value.cells] at hcs
    obtain ⟨rfl, rfl, rfl⟩ := hcs
    rw [if_pos rfl] at hm
    subst hm
    have c1 : Tryz.prog.cellsOf 55 = 1 := by kernel_rfl
    have each : ∀ i, i < len → ∃ (q : Value × List (List UInt8)), W.cell? (ad.add i) = some q.1 ∧ (∃ ai ci, q.1 = .slice ai q.2.length ci ∧ ∀ k t, q.2[k]? = some t → ∃ bi oi, ai = some ⟨bi, oi, none⟩ ∧ W.cell? ⟨bi, oi + k, none⟩ = some (.string (mk t))) ∧ rowW q.2 ≤ Rows.uptoBulk (D i) := by
      intro i hi
      obtain ⟨cs', h1, h2⟩ := hc i (by omega)
      rw [c1, Nat.mul_one] at h1
      obtain ⟨q, rfl, h3, h4⟩ := open_texts1 h2
      exact ⟨q, cell_of_cells?_one h1, h3, h4⟩
    obtain ⟨q, hq⟩ := Go.Deep.choose_lt each
    refine ⟨(List.range len).map fun i => (q i).2, ⟨some ad, m, by simp, fun i r hr => ?_⟩, ?_⟩
    · have hk := (List.getElem?_eq_some_iff.1 hr).1
      simp at hk
      rw [List.getElem?_map, List.getElem?_range hk] at hr
      obtain rfl := Option.some.inj hr
      obtain ⟨h1, ⟨ai, ci, e1, h2⟩, -⟩ := hq i hk
      obtain ⟨b, off, spot⟩ := ad
      have hspot : spot = none := World.cell?_spot (a := ⟨b, off, spot⟩) (v := (q 0).1) (by have := (hq 0 (by omega)).1; simpa [Addr.add] using this)
      subst hspot
      rw [Go.WideShapes.add_plain, e1] at h1
      exact ⟨b, off, ai, ci, rfl, h1, h2⟩
    · have h9 := bulk_range (D := D) (f := fun i => rowW (q i).2) (n := len) fun i hi => (hq i hi).2.2
      simp only [Rows.uptoBulk]
      rw [List.map_map]
      exact Nat.le_trans h9 (by omega)
end
end Go.Proofs.YtfalbdlfopfgcaaGreatDoor
