/- strings.Builder: its writing methods, at a builder of the call's own. Condition: the length. The words are joined again. Condition: the text's length. The chapter's first example: true. No condition. gridworkref14.Join: the walk. Condition: the text's length. -/
import Derived.Test.YtfalbdlfopfgcaaGreatDoorTCutM
import Derived.Lib.AppendStr
import Derived.Lib.Builder
import Derived.Laws.Externs
namespace Go.Proofs.YtfalbdlfopfgcaaGreatDoor
open Go.RowKit

theorem bld_size : (Tryz.prog.info? 70).map (·.size) = some 2 := by kernel_rfl
theorem bld_lies : liesAt Tryz.prog Tryz.prog.depth 70 (2 / Tryz.prog.cellsOf 70) 0 70 1 = true := by kernel_rfl
theorem bld_byte : (Tryz.prog.info? 5).map (fun i => (i.zero, i.size, i.bytes)) = some (some (.int .u8 0), 1, 1) := by kernel_rfl
abbrev IsB (B b : Nat) (bs : List Value) (w : World) : Prop := Lib.IsBuilder 70 5 B b bs w
abbrev UsedB (B b : Nat) (bs : List Value) (w : World) : Prop := Lib.BuilderAt 70 5 B b (.pointer (some ⟨b, 0, none⟩)) bs w

set_option maxHeartbeats 1000000 in
set_option maxRecDepth 100000 in
theorem copyCheck_used (b : Nat) (w : World) (h0 : w.cell? ⟨b, 0, none⟩ = some (.pointer (some ⟨b, 0, none⟩))) :
    Calls Tryz.prog 65 #[.pointer (some ⟨b, 0, none⟩)] w fun e w' => e = .returned (.tuple #[]) ∧ w' = w := by
  obtain ⟨j, hj, _⟩ := Option.map_eq_some_iff.1 bld_size
  go_enter Tryz.func65, Tryz.ntmps65
  go_wp2
  rw [Lib.run_neq_ptr_same w _ Tryz.underlying67 hj]
  go_wp2
  go_end0
  exact ⟨rfl, rfl⟩

set_option maxHeartbeats 1000000 in
set_option maxRecDepth 100000 in
theorem copyCheck_fresh (b : Nat) (w : World) (h0 : w.cell? ⟨b, 0, none⟩ = some (.pointer none)) (hsh : w.shape? b = some (70, 2)) (hfz : w.frozen? ⟨b, 0, none⟩ = false) :
    Calls Tryz.prog 65 #[.pointer (some ⟨b, 0, none⟩)] w fun e w' => e = .returned (.tuple #[]) ∧ w' = w.setCell ⟨b, 0, none⟩ (.pointer (some ⟨b, 0, none⟩)) := by
  obtain ⟨j, hj, hjs⟩ := Option.map_eq_some_iff.1 bld_size
  go_enter Tryz.func65, Tryz.ntmps65
  go_wp2
  rw [Lib.run_to_unsafe w ⟨b, 0, none⟩ Tryz.underlying67 Tryz.underlying139 hj (by rw [hjs]; decide) hsh (Nat.zero_lt_succ 1)]
  simp only [Result.andThen]
  rw [Oper.upon_value]
  go_wp2
  rw [run_callFunc_extern Tryz.func87 (by kernel_rfl) (by kernel_rfl) (by kernel_rfl) (e := Extern.AbiNoEscape.same) (by kernel_rfl)]
  rw [Lib.run_noEscape]
  simp only [Result.andThen]
  rw [Oper.upon_value]
  go_wp2
  rw [Lib.run_from_unsafe w ⟨b, 0, none⟩ Tryz.underlying139 Tryz.underlying67 hj hsh bld_lies]
  simp only [Result.andThen]
  rw [Oper.upon_value]
  go_wp2
  go_end0
  exact ⟨rfl, rfl⟩

/-- Rows of other types are as they were. -/
def Keeps (b : Nat) (w w' : World) : Prop := ∀ (k : Nat) (cs : Array Value) (T : TypeId) (fr : Nat × Nat), k ≠ b → w.heap[k]? = some (.cells cs T fr) → T ≠ 5 → w'.heap[k]? = w.heap[k]?
theorem Keeps.trans {b : Nat} {w w' w'' : World} (h : Keeps b w w') (h' : Keeps b w' w'') : Keeps b w w'' := fun k cs T fr hk hw hT =>
  (h' k cs T fr hk ((h k cs T fr hk hw hT).trans hw) hT).trans (h k cs T fr hk hw hT)
theorem Keeps.set (w : World) (b j : Nat) (v : Value) : Keeps b w (w.setCell ⟨b, j, none⟩ v) := fun _ _ _ _ hk _ _ => blk_set _ _ _ _ hk
theorem Keeps.alloc (w : World) (b : Nat) (o : Obj) : Keeps b w (w.alloc o) := fun _ _ _ _ _ hw _ => blk_alloc_lt' _ _ _ (Array.getElem?_eq_some_iff.1 hw).1
theorem Keeps.grown {b B : Nat} {w w' : World} {v : Value} {n : Nat} {xs : List Value} (hg : w.grownBy w' v.ownBlock) (hown : w.ownsRow B 5 1 v n xs) : Keeps b w w' := fun k _ _ _ _ hw hT =>
  hg.block k (Array.getElem?_eq_some_iff.1 hw).1 (fun e => Lib.ownBlock_ne hown hw hT e.symm)

theorem copyCheck_any (B b : Nat) (bs : List Value) (w : World) (h : IsB B b bs w) :
    Calls Tryz.prog 65 #[.pointer (some ⟨b, 0, none⟩)] w fun e w' => e = .returned (.tuple #[]) ∧ (UsedB B b bs w' ∧ Below B w w') ∧ Keeps b w w' := by
  rcases h with h | h
  · refine (copyCheck_fresh b w h.cell0 h.shape h.frozen0).mono ?_
    rintro e w' ⟨rfl, rfl⟩
    exact ⟨rfl, ⟨h.used _, (Below.refl B w).setCell (p := ⟨b, 0, none⟩) h.1 _⟩, Keeps.set _ _ _ _⟩
  · refine (copyCheck_used b w h.cell0).mono ?_
    rintro e w' ⟨rfl, rfl⟩
    exact ⟨rfl, ⟨h, Below.refl B _⟩, fun _ _ _ _ _ _ _ => rfl⟩

set_option maxHeartbeats 2000000 in
set_option maxRecDepth 100000 in
theorem WriteByte_any (B b : Nat) (bs : List Value) (c : Int) (w : World) (h : IsB B b bs w) (hlen : bs.length + 1 ≤ 140737488355328) (hBw : B ≤ w.heap.size) :
    Calls Tryz.prog 59 #[.pointer (some ⟨b, 0, none⟩), .int .u8 c] w fun e w' => e = .returned .nilIface ∧ (UsedB B b (bs ++ [.int .u8 c]) w' ∧ Below B w w') ∧ Keeps b w w' := by
  obtain ⟨i0, hi, hz0, hz1, hz2⟩ := info_parts bld_byte
  go_enter Tryz.func59, Tryz.ntmps59
  go_wp2_with (go_at_call 65; refine (copyCheck_any B b bs _ h).mono ?_)
  rintro e w1 ⟨rfl, ⟨h1, hb1⟩, hk1⟩
  obtain ⟨hB, v, hbk, hown, hne⟩ := h1
  have c0 : w1.cell? ⟨b, 0, none⟩ = some (.pointer (some ⟨b, 0, none⟩)) := by rw [Lib.cell_of_heap hbk]; rfl
  have c1 : w1.cell? ⟨b, 1, none⟩ = some v := by rw [Lib.cell_of_heap hbk]; rfl
  go_wp2_with (at_builtin; refine wpList_append_own _ rfl _ _ 68 rfl B 5 i0 (.int .u8 0) 1 1 Tryz.underlying68 hi hz0 hz1 hz2 rfl (by decide) _ _ _ rfl (hown.alloc _) ⟨w1.heap.size, 0, none⟩ 1 1 [.int .u8 c] rfl rfl ?c1 ?c2 ?c3 ?c4 ?c5 ?_)
  case c1 =>
    intro j u hj
    match j, hj with
    | 0, hj => simp at hj; subst hj; simp [Addr.add]
  case c2 => intro u hu; simp at hu; subst hu; rfl
  case c3 => unfold maxLen; omega
  case c4 => omega
  case c5 => have := hb1.size; simp; omega
  intro v' w2 hown' hgrow _
  have hlt : b < w1.heap.size := by
    rcases Nat.lt_or_ge b w1.heap.size with h' | h'
    · exact h'
    · simp [Array.getElem?_eq_none h'] at hbk
  have hb2 : w2.heap[b]? = some (.cells #[.pointer (some ⟨b, 0, none⟩), v] 70 (0, 0)) := by
    rw [hgrow.block b (by simp; omega) (fun e => hne e.symm), Lib.alloc_old w1 _ b hlt]
    exact hbk
  have d0 : w2.cell? ⟨b, 0, none⟩ = some (.pointer (some ⟨b, 0, none⟩)) := by rw [Lib.cell_of_heap hb2]; rfl
  have d1 : w2.cell? ⟨b, 1, none⟩ = some v := by rw [Lib.cell_of_heap hb2]; rfl
  have f1 : w2.frozen? ⟨b, 1, none⟩ = false := Lib.frozen_of_heap hb2 1
  obtain ⟨g, cap, rfl⟩ : ∃ g cap, v' = .slice (some ⟨g, 0, none⟩) (bs.length + 1) cap := by
    rcases hown'.2 with ⟨_, h0⟩ | ⟨g, cap, cur, hv, _⟩
    · omega
    · exact ⟨g, cap, hv⟩
  go_wp2
  go_ret
  refine ⟨rfl, ⟨?_, ?_⟩, ((hk1.trans (Keeps.alloc _ _ _)).trans (Keeps.grown hgrow (hown.alloc _))).trans (Keeps.set _ _ _ _)⟩
  · exact Lib.BuilderAt.put (T := 70) (e := 5) hB hb2 (bs' := bs ++ [.int .u8 c]) (by simpa using hown') (by decide)
  · exact ((hb1.alloc (by have := hb1.size; omega) _).grown hgrow (by have := hb1.size; simp; omega) (fun k hk => (hown.lt k hk).1)).setCell (p := ⟨b, 1, none⟩) hB _

set_option maxHeartbeats 2000000 in
set_option maxRecDepth 100000 in
theorem WriteString_any (B b : Nat) (bs : List Value) (s : ByteArray) (w : World) (h : IsB B b bs w) (hlen : bs.length + s.size ≤ 140737488355328) (hBw : B ≤ w.heap.size) :
    Calls Tryz.prog 37 #[.pointer (some ⟨b, 0, none⟩), .string s] w fun e w' => e = .returned (.tuple #[.int .i64 s.size, .nilIface]) ∧ (UsedB B b (bs ++ Lib.strCells s) w' ∧ Below B w w') := by
  obtain ⟨i0, hi, hz0, hz1, hz2⟩ := info_parts bld_byte
  go_enter Tryz.func37, Tryz.ntmps37
  go_wp2_with (go_at_call 65; refine (copyCheck_any B b bs _ h).mono ?_)
  rintro e w1 ⟨rfl, ⟨h1, hb1⟩, hk1⟩
  obtain ⟨hB, v, hbk, hown, hne⟩ := h1
  have c0 : w1.cell? ⟨b, 0, none⟩ = some (.pointer (some ⟨b, 0, none⟩)) := by rw [Lib.cell_of_heap hbk]; rfl
  have c1 : w1.cell? ⟨b, 1, none⟩ = some v := by rw [Lib.cell_of_heap hbk]; rfl
  go_wp2_with (at_builtin; refine Lib.wpList_append_own_string _ rfl _ _ 68 9 rfl B 5 i0 Tryz.underlying68 Tryz.underlying9 hi hz0 hz1 hz2 _ _ _ rfl hown s rfl ?c3 ?c4 ?c5 ?_)
  case c3 => unfold maxLen; omega
  case c4 => omega
  case c5 => have := hb1.size; omega
  intro v' w2 hown' hgrow _
  have hlt : b < w1.heap.size := by
    rcases Nat.lt_or_ge b w1.heap.size with h' | h'
    · exact h'
    · simp [Array.getElem?_eq_none h'] at hbk
  have hb2 : w2.heap[b]? = some (.cells #[.pointer (some ⟨b, 0, none⟩), v] 70 (0, 0)) := by
    rw [hgrow.block b hlt (fun e => hne e.symm)]
    exact hbk
  have d0 : w2.cell? ⟨b, 0, none⟩ = some (.pointer (some ⟨b, 0, none⟩)) := by rw [Lib.cell_of_heap hb2]; rfl
  have d1 : w2.cell? ⟨b, 1, none⟩ = some v := by rw [Lib.cell_of_heap hb2]; rfl
  have f1 : w2.frozen? ⟨b, 1, none⟩ = false := Lib.frozen_of_heap hb2 1
  obtain ⟨ao, n', cap, rfl⟩ : ∃ ao n' cap, v' = .slice ao n' cap := by
    rcases hown'.2 with ⟨hv, _⟩ | ⟨g, cap, cur, hv, _⟩
    · exact ⟨_, _, _, hv⟩
    · exact ⟨_, _, _, hv⟩
  go_wp2
  go_ret2
  refine ⟨rfl, ?_, ?_⟩
  · exact Lib.BuilderAt.put (T := 70) (e := 5) hB hb2 (bs' := bs ++ Lib.strCells s) (by simpa [Lib.strCells_length] using hown') (by decide)
  · exact (hb1.grown hgrow (by have := hb1.size; omega) (fun k hk => (hown.lt k hk).1)).setCell (p := ⟨b, 1, none⟩) hB _
end Go.Proofs.YtfalbdlfopfgcaaGreatDoor

namespace Go.Proofs.YtfalbdlfopfgcaaGreatDoor
open Go.RowKit

/-- A line's words, joined. -/
def rowJ : List Tok → List UInt8
  | [] => []
  | t :: r => t.1 ++ r.flatMap fun t => 32 :: t.1
def joinT (rows : List (List Tok)) : List UInt8 := rows.flatMap fun r => rowJ r ++ [10]
theorem rowJ_snoc (r : List Tok) (t : Tok) : rowJ (r ++ [t]) = rowJ r ++ (if r = [] then [] else [32]) ++ t.1 := by
  cases r with
  | nil => simp [rowJ]
  | cons p r => simp [rowJ]
theorem joinT_snoc (rows : List (List Tok)) (r : List Tok) : joinT (rows ++ [r]) = joinT rows ++ rowJ r ++ [10] := by simp [joinT]
theorem joinT_app (a b : List (List Tok)) : joinT (a ++ b) = joinT a ++ joinT b := by simp [joinT]
theorem take_one {α : Type} {xs : List α} {k : Nat} {x : α} (h : xs[k]? = some x) : xs.take (k + 1) = xs.take k ++ [x] := by
  rw [List.take_add_one, h]; rfl
theorem joinT_len {rows : List (List Tok)} {i k : Nat} {r : List Tok} {t : Tok} (hr : rows[i]? = some r) (ht : r[k]? = some t) : (joinT (rows.take i)).length + (rowJ (r.take k)).length + 1 + t.1.length + 1 ≤ (joinT rows).length + 1 := by
  have h1 : rows = rows.take (i + 1) ++ rows.drop (i + 1) := (List.take_append_drop _ _).symm
  have h2 : r = r.take (k + 1) ++ r.drop (k + 1) := (List.take_append_drop _ _).symm
  have h3 : (joinT rows).length = (joinT (rows.take (i + 1))).length + (joinT (rows.drop (i + 1))).length := by
    have := congrArg List.length (joinT_app (rows.take (i + 1)) (rows.drop (i + 1)))
    rw [← h1] at this
    simpa using this
  rw [take_one hr, joinT_snoc] at h3
  have h4 : ∀ a b : List Tok, (rowJ a).length ≤ (rowJ (a ++ b)).length := by
    intro a b
    cases a with
    | nil => simp [rowJ]
    | cons p a => simp [rowJ]
  have h5 := h4 (r.take (k + 1)) (r.drop (k + 1))
  rw [← h2, take_one ht, rowJ_snoc] at h5
  simp only [List.length_append, List.length_singleton] at h3 h5
  omega
theorem joinT_len2 {rows : List (List Tok)} {i : Nat} {r : List Tok} (hr : rows[i]? = some r) : (joinT (rows.take i)).length + (rowJ r).length + 1 ≤ (joinT rows).length := by
  have h1 : rows = rows.take (i + 1) ++ rows.drop (i + 1) := (List.take_append_drop _ _).symm
  have h3 : (joinT rows).length = (joinT (rows.take (i + 1))).length + (joinT (rows.drop (i + 1))).length := by
    have := congrArg List.length (joinT_app (rows.take (i + 1)) (rows.drop (i + 1)))
    rw [← h1] at this
    simpa using this
  rw [take_one hr, joinT_snoc] at h3
  simp only [List.length_append, List.length_singleton] at h3
  omega

theorem bc_app (a b : List UInt8) : Lib.byteCells (a ++ b) = Lib.byteCells a ++ Lib.byteCells b := by simp [Lib.byteCells]
theorem isB_lt {B b : Nat} {bs : List Value} {w : World} (h : IsB B b bs w) : b < w.heap.size := by
  rcases h with h | h <;> exact h.lt
theorem tok_kept {b : Nat} {w w' : World} {x y z : Value} (h : Keeps b (w.alloc (.cells #[x, y, z] 33)) w') (hb : w.heap.size ≠ b) : w'.cell? ⟨w.heap.size, 0, none⟩ = some x := by
  have h0 : (w.alloc (.cells #[x, y, z] 33)).heap[w.heap.size]? = some (.cells #[x, y, z] 33 (0, 0)) := by
    show (w.heap.push _)[w.heap.size]? = _
    simp
  have h1 := (h w.heap.size _ _ _ hb h0 (by decide)).trans h0
  simp [World.cell?, h1]
theorem isB_below {B b : Nat} {bs : List Value} {w w' : World} (h : IsB B b bs w) (hb : Below w.heap.size w w') : IsB B b bs w' := by
  have hk : ∀ p, Lib.BuilderAt 70 5 B b p bs w → Lib.BuilderAt 70 5 B b p bs w' := by
    intro p h
    have hlt := h.lt
    obtain ⟨hB, v, hbk, hown, hne⟩ := h
    exact ⟨hB, v, by rw [hb.block b hlt]; exact hbk, owns_below hown hb, hne⟩
  rcases h with h | h
  · exact .inl (hk _ h)
  · exact .inr (hk _ h)

def JoinO (w : World) (rows : List (List Tok)) (i : Value) (wr : World) : Prop := ∃ k : Nat, i = .int .i64 k ∧ k ≤ rows.length ∧ IsB w.heap.size w.heap.size (Lib.byteCells (joinT (rows.take k))) wr ∧ Below w.heap.size w wr
def JoinI (w : World) (pre : List UInt8) (r : List Tok) (i : Value) (wr : World) : Prop := ∃ k : Nat, i = .int .i64 k ∧ k ≤ r.length ∧ IsB w.heap.size w.heap.size (Lib.byteCells (pre ++ rowJ (r.take k))) wr ∧ Below w.heap.size w wr

set_option maxRecDepth 100000 in
set_option maxHeartbeats 2000000 in
theorem Join_any (w : World) (base : Nat) (V : Value) (rows : List (List Tok)) (vs : List Value) (hG : Grid w base V rows vs) (hlen : (joinT rows).length ≤ 140000000000000) :
    Calls Tryz.prog 28 #[V] w fun e w' => e = .returned (.string (mk (joinT rows))) ∧ Below w.heap.size w w' := by
  obtain ⟨aa, ca, hVA⟩ := gridV hG
  subst hVA
  have GA := hid hG
  clear hG
  go_enter Tryz.func28, Tryz.ntmps28
  go_wp2
  go_loopw [10] (fun i wr => JoinO w rows i wr) (fun i _ => rows.length + 1 - (intOf i).toNat)
  case atStart => exact ⟨0, rfl, by omega, Lib.fresh_isBuilder _ _ _, (Below.refl _ _).alloc (Nat.le_refl _) _⟩
  case round =>
    obtain ⟨i, rfl, hi, hB, hb⟩ := hrel
    have hz := hb.size
    have G2 := hid (GA.out.below hb)
    by_cases hil : i < rows.length
    · obtain ⟨r, hr⟩ : ∃ r, rows[i]? = some r := ⟨rows[i]'hil, by simp⟩
      obtain ⟨ga, cap1, ad1, _, sc1, e1, _, hc1, hv1, ⟨_, hl1, hl2⟩, _⟩ := gridAt G2.out hr
      unfold maxLen at hl1 hl2
      cases e1
      have HR := hid hr
      clear hr
      go_wp2
      have HP := hid (joinT_len2 HR.out)
      go_loopw [16] (fun k wr => JoinI w (joinT (rows.take i)) r k wr) (fun k _ => r.length + 1 - (intOf k).toNat)
      case atStart => exact ⟨0, rfl, by omega, by simpa [rowJ] using hB, hb⟩
      case round =>
        obtain ⟨k, rfl, hk, hB2, hb2⟩ := hrel
        have hz2 := hb2.size
        have G3 := hid (GA.out.below hb2)
        by_cases hkl : k < r.length
        · obtain ⟨t, ht⟩ : ∃ t, r[k]? = some t := ⟨r[k]'hkl, by simp⟩
          obtain ⟨ga', _, ad2, _, sc2, e1, _, hd1, hv2, _, hcell⟩ := gridAt G3.out HR.out
          cases e1
          rw [hv1] at hv2
          cases hv2
          obtain ⟨ba, rfl, _, x0, x1, x2⟩ := hcell k t ht
          have hlen3 := joinT_len HR.out ht
          have hnx : rowJ (r.take (k + 1)) = rowJ (r.take k) ++ (if r.take k = [] then [] else [32]) ++ t.1 := by rw [take_one ht, rowJ_snoc]
          obtain ⟨L, hL⟩ : ∃ L, L = joinT (rows.take i) ++ rowJ (r.take k) := ⟨_, rfl⟩
          have hLl : L.length + 1 + t.1.length ≤ 140000000000000 := by rw [hL, List.length_append]; omega
          have hbl : (Lib.byteCells L).length = L.length := Lib.byteCells_length L
          have hbs : (mk t.1).size = t.1.length := rfl
          rw [← hL] at hB2
          have hblt := isB_lt hB2
          have HL := hid hL
          have HN := hid hnx
          clear hnx hcell hL hlen3
          have hB3 := isB_below (w' := wr.alloc (.cells #[.string (mk t.1), .int .i64 t.2.1, .int .i64 t.2.2] 33)) hB2 ((Below.refl _ _).alloc (Nat.le_refl _) _)
          have hb3 := hb2.alloc hz2 (.cells #[.string (mk t.1), .int .i64 t.2.1, .int .i64 t.2.2] 33)
          have hz3 := hb3.size
          have HB3 := hid hB3
          have Hb3 := hid hb3
          have HT := hid ht
          clear hB3 hb3 ht
          by_cases hk0 : k = 0
          · subst hk0
            simp only [Nat.zero_mul, Nat.zero_add] at x0 x1 x2
            go_wp2_with (go_at_call 37; refine (WriteString_any w.heap.size w.heap.size (Lib.byteCells L) (mk t.1) _ HB3.out (by omega) hz3).mono ?_; rintro e w3 ⟨rfl, hu, hb4⟩)
            go_roundw
            case rel => exact ⟨1, by go_num, by omega, .inr (by rw [HN.out]; have h := hu; rw [show Lib.strCells (mk t.1) = Lib.byteCells t.1 from rfl, ← bc_app, HL.out] at h; simpa using h), Hb3.out.trans hb4⟩
            case measure => simp [intOf] <;> omega
          · have hkp : (0 : Int) < (k : Int) := by omega
            have hne : ¬ r.take k = [] := by
              intro h
              have := congrArg List.length h
              rw [List.length_take] at this
              simp only [List.length_nil] at this
              omega
            have HNE := hid hne
            clear hne
            go_wp2_with (first | (go_at_call 59; refine (WriteByte_any w.heap.size w.heap.size (Lib.byteCells L) 32 _ HB3.out (by omega) hz3).mono ?_; rintro e w3 ⟨rfl, ⟨hu, hb4⟩, hk4⟩; have hz4 := hb4.size; have htc := tok_kept hk4 (by omega)) | (go_at_call 37; refine (WriteString_any w.heap.size w.heap.size (Lib.byteCells L ++ [.int .u8 32]) (mk t.1) _ (.inr hu) (by simp only [List.length_append, List.length_singleton]; omega) (by omega)).mono ?_; rintro e w4 ⟨rfl, hu2, hb5⟩))
            go_roundw
            case rel => exact ⟨k + 1, by go_num, by omega, .inr (by rw [HN.out, if_neg HNE.out]; have h := hu2; rw [show Lib.strCells (mk t.1) = Lib.byteCells t.1 from rfl, show [Value.int .u8 32] = Lib.byteCells [32] from rfl, ← bc_app, ← bc_app, HL.out] at h; simpa using h), (Hb3.out.trans hb4).trans hb5⟩
            case measure => simp [intOf] <;> omega
        · obtain rfl : k = r.length := by omega
          have hbl : (Lib.byteCells (joinT (rows.take i) ++ rowJ (r.take r.length))).length = (joinT (rows.take i)).length + (rowJ r).length := by rw [Lib.byteCells_length]; simp
          have hPo := HP.out
          go_wp2_with (go_at_call 59; refine (WriteByte_any w.heap.size w.heap.size _ 10 _ hB2 (by omega) hz2).mono ?_; rintro e w3 ⟨rfl, ⟨hu, hb4⟩, _⟩)
          go_roundw
          case rel => exact ⟨i + 1, by go_num, by omega, .inr (by rw [take_one HR.out, joinT_snoc]; have h := hu; rw [show [Value.int .u8 10] = Lib.byteCells [10] from rfl, ← bc_app, List.take_length] at h; exact h), hb2.trans hb4⟩
          case measure => simp [intOf] <;> omega
    · obtain rfl : i = rows.length := by omega
      rw [List.take_length] at hB
      go_wp2_with (go_at_call 39; refine (Tryz.Builder_String_any w.heap.size w.heap.size (joinT rows) _ hB hz).mono ?_; rintro e w3 ⟨rfl, hb4⟩)
      go_ret
      exact ⟨rfl, hb.trans hb4⟩
end Go.Proofs.YtfalbdlfopfgcaaGreatDoor

namespace Go.Proofs.YtfalbdlfopfgcaaGreatDoor
open Go.RowKit

def lvS : List UInt8 := [82, 49, 32, 97, 32, 48, 32, 52, 46, 55, 107, 32, 42, 32, 108, 111, 97, 100]
def lvR : List (List Tok) := [[([82, 49], 0, 0), ([97], 0, 3), ([48], 0, 5), ([52, 46, 55, 107], 0, 7)]]
theorem lv_cut : cutOut lvS = (lvR, 0, 0) := by decide
theorem lv_join : joinT lvR = [82, 49, 32, 97, 32, 48, 32, 52, 46, 55, 107, 10] := by decide
theorem lv_Cut (w : World) : Calls Tryz.prog 7 #[.string ⟨#[82, 49, 32, 97, 32, 48, 32, 52, 46, 55, 107, 32, 42, 32, 108, 111, 97, 100]⟩] w fun e w' => ∃ V vs, e = .returned (.tuple #[V, .agg #[.int .i64 0, .int .i64 0]]) ∧ Grid w' w.heap.size V lvR vs ∧ Below w.heap.size w w' := by
  refine (Cut_any lvS w (by decide)).mono ?_
  rintro e w' ⟨V, vs, h1, h2, h3⟩
  rw [lv_cut] at h1 h2
  exact ⟨V, vs, h1, h2, h3⟩

/-- A row of one row, written out. -/
theorem Grid.lit (w : World) (N : Nat) (hN : N = w.heap.size) (cs : Array Value) (r : List Tok) (n : Nat) (hn : n = r.length) (hr : cs.toList = cellsOf r) (hl : n ≤ maxLen) : Grid ((w.alloc (.cells cs 33)).alloc (.cells #[.slice (some ⟨N, 0, none⟩) n n] 35)) N
    (.slice (some ⟨N + 1, 0, none⟩) 1 1) [r] [.slice (some ⟨N, 0, none⟩) n n] := by
  subst hN hn
  generalize hu : Value.slice (some ⟨w.heap.size, 0, none⟩) r.length r.length = u
  have h0 : ((w.alloc (.cells cs 33)).alloc (.cells #[u] 35)).heap[w.heap.size]? = some (.cells cs 33 (0, 0)) := by
    rw [blk_alloc_lt' _ _ _ (by simp)]
    show (w.heap.push _)[w.heap.size]? = _
    simp
  have h1 : ((w.alloc (.cells cs 33)).alloc (.cells #[u] 35)).heap[w.heap.size + 1]? = some (.cells #[u] 35 (0, 0)) := by
    have hs : (w.alloc (.cells cs 33)).heap.size = w.heap.size + 1 := by simp
    generalize w.alloc (.cells cs 33) = w1 at *
    rw [← hs]
    show (w1.heap.push _)[_]? = _
    simp
  have hcs : cs.size = r.length * 3 := by rw [← Array.length_toList, hr, cellsOf_len]
  refine ⟨rfl, ?_, ?_, ?_, ?_⟩
  · refine ⟨rfl, .inr ⟨_, 1, _, rfl, by omega, h1, by simp, by unfold maxLen; omega, rfl, rfl⟩⟩
  · intro i v q hv hq
    have hi := (List.getElem?_eq_some_iff.1 hv).1
    simp only [List.length_singleton] at hi
    obtain rfl : i = 0 := by omega
    simp only [List.getElem?_cons_zero, Option.some.injEq] at hv hq
    subst hv hq hu
    exact ⟨cellsOf_len _, .inr ⟨_, r.length, cs, rfl, Nat.le_refl _, h0, Nat.le_refl _, hl, hcs, by rw [hr]; exact List.take_of_length_le (by rw [cellsOf_len]; omega)⟩⟩
  · intro i v hv
    have hi := (List.getElem?_eq_some_iff.1 hv).1
    simp only [List.length_singleton] at hi
    obtain rfl : i = 0 := by omega
    simp only [List.getElem?_cons_zero, Option.some.injEq] at hv
    subst hv hu
    exact .inr (by simp [Value.ownBlock])
  · intro i j v u hij hv hu
    have hi := (List.getElem?_eq_some_iff.1 hv).1
    have hj := (List.getElem?_eq_some_iff.1 hu).1
    simp only [List.length_singleton] at hi hj
    omega

theorem lv_same (w w2 : World) (N b : Nat) (V : Value) (vs : List Value) (hG : Grid w2 b V lvR vs) (hN : N = w.heap.size)
    (hw : w2 = (w.alloc (.cells #[.string ⟨#[82, 49]⟩, .int .i64 0, .int .i64 0, .string ⟨#[97]⟩, .int .i64 0, .int .i64 3, .string ⟨#[48]⟩, .int .i64 0, .int .i64 5, .string ⟨#[52, 46, 55, 107]⟩, .int .i64 0, .int .i64 7] 33)).alloc (.cells #[.slice (some ⟨N, 0, none⟩) 4 4] 35)) :
    Calls Tryz.prog 10 #[V, .slice (some ⟨N + 1, 0, none⟩) 1 1] w2 fun e w' => e = .returned (.bool true) ∧ ∃ n, w' = w2.drewN n := by
  have h := Grid.lit w N hN #[.string ⟨#[82, 49]⟩, .int .i64 0, .int .i64 0, .string ⟨#[97]⟩, .int .i64 0, .int .i64 3, .string ⟨#[48]⟩, .int .i64 0, .int .i64 5, .string ⟨#[52, 46, 55, 107]⟩, .int .i64 0, .int .i64 7] [([82, 49], 0, 0), ([97], 0, 3), ([48], 0, 5), ([52, 46, 55, 107], 0, 7)] 4 rfl rfl (by decide)
  rw [← hw] at h
  exact same_any w2 b N V _ lvR vs _ hG h
theorem lv_Join (w : World) (b : Nat) (V : Value) (vs : List Value) (hG : Grid w b V lvR vs) : Calls Tryz.prog 28 #[V] w fun e w' => e = .returned (.string ⟨#[82, 49, 32, 97, 32, 48, 32, 52, 46, 55, 107, 10]⟩) ∧ Below w.heap.size w w' := by
  have h := Join_any w b V lvR vs hG (by rw [lv_join]; decide)
  rw [lv_join] at h
  exact h

set_option maxRecDepth 100000 in
set_option maxHeartbeats 1000000 in
theorem lives_any (w : World) : Calls Tryz.prog 11 #[] w fun e w' => e = .returned (.bool true) ∧ Below w.heap.size w w' := by
  go_enter Tryz.func11, Tryz.ntmps11
  go_wp2_with (first | (go_at_call 7; refine (lv_Cut _).mono ?_; rintro e w1 ⟨V, vs, rfl, hG, hb⟩; have hz := hb.size) | (go_at_call 10; refine (lv_same _ _ (w1.heap.size + 1) w.heap.size V vs (hG.below ((((Below.refl _ _).alloc (Nat.le_refl _) _).alloc (by simp) _).alloc (by simp; omega) _)) (by simp) rfl).mono ?_; rintro e w2 ⟨rfl, n, rfl⟩) | (go_at_call 28; refine (lv_Join _ w.heap.size V vs (Grid.drewN (hG.below ((((Below.refl _ _).alloc (Nat.le_refl _) _).alloc (by simp) _).alloc (by simp; omega) _)) n)).mono ?_; rintro e w3 ⟨rfl, hb3⟩))
  go_ret
  refine ⟨rfl, hb.trans (((((Below.refl w.heap.size w1).alloc hz _).alloc (by simp; omega) _).alloc (by simp; omega) _).trans (below_mono (below_of_drewN hb3) (by simp; omega)))⟩
end Go.Proofs.YtfalbdlfopfgcaaGreatDoor

namespace Go.Proofs.YtfalbdlfopfgcaaGreatDoor
open Go.RowKit

def RJoinO (w : World) (rows : List (List Tok)) (s i : Value) (wr : World) : Prop := ∃ (k : Nat) (S : ByteArray), i = .int .i64 k ∧ k ≤ rows.length ∧ s = .string S ∧ S = mk (joinT (rows.take k)) ∧ wr = w
def RJoinI (w : World) (pre : List UInt8) (r : List Tok) (s i : Value) (wr : World) : Prop := ∃ (k : Nat) (S : ByteArray), i = .int .i64 k ∧ k ≤ r.length ∧ s = .string S ∧ S = mk (pre ++ rowJ (r.take k)) ∧ wr = w
theorem mk_cat (a b : List UInt8) : mk a ++ mk b = mk (a ++ b) := by
  apply ByteArray.ext
  rw [ByteArray.data_append]
  simp [mk]
theorem mk_sz (a : List UInt8) : (mk a).size = a.length := rfl

set_option maxRecDepth 100000 in
set_option maxHeartbeats 2000000 in
theorem rJoin_any (w : World) (base : Nat) (V : Value) (rows : List (List Tok)) (vs : List Value) (hG : Grid w base V rows vs) (hlen : (joinT rows).length ≤ 140000000000000) :
    Calls Tryz.prog 29 #[V] w fun e w' => e = .returned (.string (mk (joinT rows))) ∧ w' = w := by
  obtain ⟨aa, ca, hVA⟩ := gridV hG
  subst hVA
  have GA := hid hG
  clear hG
  go_enter Tryz.func29, Tryz.ntmps29
  go_wp2
  go_loopw [3, 4, 5] (fun s i _ wr => RJoinO w rows s i wr) (fun _ i _ _ => rows.length + 1 - (intOf i).toNat)
  case atStart => exact ⟨0, _, rfl, by omega, rfl, rfl, rfl⟩
  case round =>
    obtain ⟨i, S, rfl, hi, rfl, hS, rfl⟩ := hrel
    by_cases hil : i < rows.length
    · obtain ⟨r, hr⟩ : ∃ r, rows[i]? = some r := ⟨rows[i]'hil, by simp⟩
      obtain ⟨ga, cap1, ad1, _, sc1, e1, _, hc1, hv1, ⟨_, hl1, hl2⟩, ht1⟩ := gridAt GA.out hr
      unfold maxLen at hl1 hl2
      cases e1
      have HT := hid ht1
      have HR := hid hr
      have HS := hid hS
      have HP := hid (joinT_len2 hr)
      clear ht1 hr hS
      go_wp2
      go_loopw [3, 5] (fun s k wr' => RJoinI wr (joinT (rows.take i)) r s k wr') (fun _ k _ => r.length + 1 - (intOf k).toNat)
      case atStart => exact ⟨0, S, rfl, by omega, rfl, by rw [HS.out]; simp [rowJ], rfl⟩
      case round =>
        obtain ⟨k, S2, rfl, hk, rfl, hS2, rfl⟩ := hrel
        by_cases hkl : k < r.length
        · obtain ⟨t, ht⟩ : ∃ t, r[k]? = some t := ⟨r[k]'hkl, by simp⟩
          obtain ⟨ba, rfl, _, x0, x1, x2⟩ := HT.out k t ht
          have hlen3 := joinT_len HR.out ht
          have hnx : rowJ (r.take (k + 1)) = rowJ (r.take k) ++ (if r.take k = [] then [] else [32]) ++ t.1 := by rw [take_one ht, rowJ_snoc]
          obtain ⟨T, hT⟩ : ∃ T, T = mk t.1 := ⟨_, rfl⟩
          have hz2 : S2.size + 1 + T.size ≤ 140000000000000 := by rw [hS2, hT, mk_sz, mk_sz, List.length_append]; omega
          rw [← hT] at x0
          have HN := hid hnx
          have HS2 := hid hS2
          have HTT := hid hT
          clear hnx hS2 hT hlen3 ht
          by_cases hk0 : k = 0
          · subst hk0
            simp only [Nat.zero_mul, Nat.zero_add] at x0 x1 x2
            go_wp2
            go_roundw
            case rel => exact ⟨1, _, by go_num, by omega, rfl, by rw [HN.out, HS2.out, HTT.out, mk_cat]; simp [rowJ], rfl⟩
            case measure => simp [intOf] <;> omega
          · have hkp : (0 : Int) < (k : Int) := by omega
            have hne : ¬ r.take k = [] := by
              intro h
              have := congrArg List.length h
              rw [List.length_take] at this
              simp only [List.length_nil] at this
              omega
            have HNE := hid hne
            clear hne
            go_wp2
            go_roundw
            case rel => exact ⟨k + 1, _, by go_num, by omega, rfl, by rw [HN.out, HS2.out, HTT.out, if_neg HNE.out, show (ByteArray.mk #[32]) = mk [32] from rfl, mk_cat, mk_cat]; simp, rfl⟩
            case measure => simp [intOf] <;> omega
        · obtain rfl : k = r.length := by omega
          have hz2 : S2.size + 1 ≤ 140000000000000 := by
            have := HP.out
            rw [hS2, mk_sz, List.length_append, List.take_length]
            omega
          have HS2 := hid hS2
          clear hS2
          go_wp2
          go_roundw
          case rel => exact ⟨i + 1, _, by go_num, by omega, rfl, by rw [take_one HR.out, joinT_snoc, HS2.out, List.take_length, show (ByteArray.mk #[10]) = mk [10] from rfl, mk_cat], rfl⟩
          case measure => simp [intOf] <;> omega
    · obtain rfl : i = rows.length := by omega
      rw [List.take_length] at hS
      have HS := hid hS
      clear hS
      go_wp2
      go_ret
      exact ⟨by rw [HS.out]; rfl, rfl⟩
end Go.Proofs.YtfalbdlfopfgcaaGreatDoor
