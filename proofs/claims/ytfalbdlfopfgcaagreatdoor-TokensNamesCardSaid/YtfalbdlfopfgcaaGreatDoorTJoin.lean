/- The words are joined again. Condition: the text's length. -/
import Derived.Test.YtfalbdlfopfgcaaGreatDoorTBld
namespace Go.Proofs.YtfalbdlfopfgcaaGreatDoor
open Go.RowKit

/-- A line's words, joined. -/
def rowJ : List Tok → List UInt8
  | [] => []
  | t :: r => t.1 ++ r.flatMap fun t => 32 :: t.1
def joinT (rows : List (List Tok)) : List UInt8 := rows.flatMap fun r => rowJ r ++ [10]
theorem rowJ_snoc (r : List Tok) (t : Tok) : rowJ (r ++ [t]) = rowJ r ++ (if r = [] then [] else [32]) ++ t.1 := by
  cases r with
  | nil => simp [rowJ]
  | cons p r => simp [rowJ]
theorem joinT_snoc (rows : List (List Tok)) (r : List Tok) : joinT (rows ++ [r]) = joinT rows ++ rowJ r ++ [10] := by simp [joinT]
theorem joinT_app (a b : List (List Tok)) : joinT (a ++ b) = joinT a ++ joinT b := by simp [joinT]
theorem take_one {α : Type} {xs : List α} {k : Nat} {x : α} (h : xs[k]? = some x) : xs.take (k + 1) = xs.take k ++ [x] := by
  rw [List.take_add_one, h]; rfl
theorem joinT_len {rows : List (List Tok)} {i k : Nat} {r : List Tok} {t : Tok} (hr : rows[i]? = some r) (ht : r[k]? = some t) : (joinT (rows.take i)).length + (rowJ (r.take k)).length + 1 + t.1.length + 1 ≤ (joinT rows).length + 1 := by
  have h1 : rows = rows.take (i + 1) ++ rows.drop (i + 1) := (List.take_append_drop _ _).symm
  have h2 : r = r.take (k + 1) ++ r.drop (k + 1) := (List.take_append_drop _ _).symm
  have h3 : (joinT rows).length = (joinT (rows.take (i + 1))).length + (joinT (rows.drop (i + 1))).length := by
    have := congrArg List.length (joinT_app (rows.take (i + 1)) (rows.drop (i + 1)))
    rw [← h1] at this
    simpa using this
  rw [take_one hr, joinT_snoc] at h3
  have h4 : ∀ a b : List Tok, (rowJ a).length ≤ (rowJ (a ++ b)).length := by
    intro a b
    cases a with
    | nil => simp [rowJ]
    | cons p a => simp [rowJ]
  have h5 := h4 (r.take (k + 1)) (r.drop (k + 1))
  rw [← h2, take_one ht, rowJ_snoc] at h5
  simp only [List.length_append, List.length_singleton] at h3 h5
  omega
theorem joinT_len2 {rows : List (List Tok)} {i : Nat} {r : List Tok} (hr : rows[i]? = some r) : (joinT (rows.take i)).length + (rowJ r).length + 1 ≤ (joinT rows).length := by
  have h1 : rows = rows.take (i + 1) ++ rows.drop (i + 1) := (List.take_append_drop _ _).symm
  have h3 : (joinT rows).length = (joinT (rows.take (i + 1))).length + (joinT (rows.drop (i + 1))).length := by
    have := congrArg List.length (joinT_app (rows.take (i + 1)) (rows.drop (i + 1)))
    rw [← h1] at this
    simpa using this
  rw [take_one hr, joinT_snoc] at h3
  simp only [List.length_append, List.length_singleton] at h3
  omega

theorem bc_app (a b : List UInt8) : Lib.byteCells (a ++ b) = Lib.byteCells a ++ Lib.byteCells b := by simp [Lib.byteCells]
theorem isB_lt {B b : Nat} {bs : List Value} {w : World} (h : IsB B b bs w) : b < w.heap.size := by
  rcases h with h | h <;> exact h.lt
theorem tok_kept {b : Nat} {w w' : World} {x y z : Value} (h : Keeps b (w.alloc (.cells #[x, y, z] 33)) w') (hb : w.heap.size ≠ b) : w'.cell? ⟨w.heap.size, 0, none⟩ = some x := by
  have h0 : (w.alloc (.cells #[x, y, z] 33)).heap[w.heap.size]? = some (.cells #[x, y, z] 33 (0, 0)) := by
    show (w.heap.push _)[w.heap.size]? = _
    simp
  have h1 := (h w.heap.size _ _ _ hb h0 (by decide)).trans h0
  simp [World.cell?, h1]
theorem isB_below {B b : Nat} {bs : List Value} {w w' : World} (h : IsB B b bs w) (hb : Below w.heap.size w w') : IsB B b bs w' := by
  have hk : ∀ p, Lib.BuilderAt 70 5 B b p bs w → Lib.BuilderAt 70 5 B b p bs w' := by
    intro p h
    have hlt := h.lt
    obtain ⟨hB, v, hbk, hown, hne⟩ := h
    exact ⟨hB, v, by rw [hb.block b hlt]; exact hbk, owns_below hown hb, hne⟩
  rcases h with h | h
  · exact .inl (hk _ h)
  · exact .inr (hk _ h)

def JoinO (w : World) (rows : List (List Tok)) (i : Value) (wr : World) : Prop := ∃ k : Nat, i = .int .i64 k ∧ k ≤ rows.length ∧ IsB w.heap.size w.heap.size (Lib.byteCells (joinT (rows.take k))) wr ∧ Below w.heap.size w wr
def JoinI (w : World) (pre : List UInt8) (r : List Tok) (i : Value) (wr : World) : Prop := ∃ k : Nat, i = .int .i64 k ∧ k ≤ r.length ∧ IsB w.heap.size w.heap.size (Lib.byteCells (pre ++ rowJ (r.take k))) wr ∧ Below w.heap.size w wr

set_option maxRecDepth 100000 in
set_option maxHeartbeats 2000000 in
theorem Join_any (w : World) (base : Nat) (V : Value) (rows : List (List Tok)) (vs : List Value) (hG : Grid w base V rows vs) (hlen : (joinT rows).length ≤ 140000000000000) :
    Calls Tryz.prog 28 #[V] w fun e w' => e = .returned (.string (mk (joinT rows))) ∧ Below w.heap.size w w' := by
  obtain ⟨aa, ca, hVA⟩ := gridV hG
  subst hVA
  have GA := hid hG
  clear hG
  go_enter Tryz.func28, Tryz.ntmps28
  go_wp2
  go_loopw [10] (fun i wr => JoinO w rows i wr) (fun i _ => rows.length + 1 - (intOf i).toNat)
  case atStart => exact ⟨0, rfl, by omega, Lib.fresh_isBuilder _ _ _, (Below.refl _ _).alloc (Nat.le_refl _) _⟩
  case round =>
    obtain ⟨i, rfl, hi, hB, hb⟩ := hrel
    have hz := hb.size
    have G2 := hid (GA.out.below hb)
    by_cases hil : i < rows.length
    · obtain ⟨r, hr⟩ : ∃ r, rows[i]? = some r := ⟨rows[i]'hil, by simp⟩
      obtain ⟨ga, cap1, ad1, _, sc1, e1, _, hc1, hv1, ⟨_, hl1, hl2⟩, _⟩ := gridAt G2.out hr
      unfold maxLen at hl1 hl2
      cases e1
      have HR := hid hr
      clear hr
      go_wp2
      have HP := hid (joinT_len2 HR.out)
      go_loopw [16] (fun k wr => JoinI w (joinT (rows.take i)) r k wr) (fun k _ => r.length + 1 - (intOf k).toNat)
      case atStart => exact ⟨0, rfl, by omega, by simpa [rowJ] using hB, hb⟩
      case round =>
        obtain ⟨k, rfl, hk, hB2, hb2⟩ := hrel
        have hz2 := hb2.size
        have G3 := hid (GA.out.below hb2)
        by_cases hkl : k < r.length
        · obtain ⟨t, ht⟩ : ∃ t, r[k]? = some t := ⟨r[k]'hkl, by simp⟩
          obtain ⟨ga', _, ad2, _, sc2, e1, _, hd1, hv2, _, hcell⟩ := gridAt G3.out HR.out
          cases e1
          rw [hv1] at hv2
          cases hv2
          obtain ⟨ba, rfl, _, x0, x1, x2⟩ := hcell k t ht
          have hlen3 := joinT_len HR.out ht
          have hnx : rowJ (r.take (k + 1)) = rowJ (r.take k) ++ (if r.take k = [] then [] else [32]) ++ t.1 := by rw [take_one ht, rowJ_snoc]
          obtain ⟨L, hL⟩ : ∃ L, L = joinT (rows.take i) ++ rowJ (r.take k) := ⟨_, rfl⟩
          have hLl : L.length + 1 + t.1.length ≤ 140000000000000 := by rw [hL, List.length_append]; omega
          have hbl : (Lib.byteCells L).length = L.length := Lib.byteCells_length L
          have hbs : (mk t.1).size = t.1.length := rfl
          rw [← hL] at hB2
          have hblt := isB_lt hB2
          have HL := hid hL
          have HN := hid hnx
          clear hnx hcell hL hlen3
          have hB3 := isB_below (w' := wr.alloc (.cells #[.string (mk t.1), .int .i64 t.2.1, .int .i64 t.2.2] 33)) hB2 ((Below.refl _ _).alloc (Nat.le_refl _) _)
          have hb3 := hb2.alloc hz2 (.cells #[.string (mk t.1), .int .i64 t.2.1, .int .i64 t.2.2] 33)
          have hz3 := hb3.size
          have HB3 := hid hB3
          have Hb3 := hid hb3
          have HT := hid ht
          clear hB3 hb3 ht
          by_cases hk0 : k = 0
          · subst hk0
            simp only [Nat.zero_mul, Nat.zero_add] at x0 x1 x2
            go_wp2_with (go_at_call 37; refine (WriteString_any w.heap.size w.heap.size (Lib.byteCells L) (mk t.1) _ HB3.out (by omega) hz3).mono ?_; rintro e w3 ⟨rfl, hu, hb4⟩)
            go_roundw
            case rel => exact ⟨1, by go_num, by omega, .inr (by rw [HN.out]; have h := hu; rw [show Lib.strCells (mk t.1) = Lib.byteCells t.1 from rfl, ← bc_app, HL.out] at h; simpa using h), Hb3.out.trans hb4⟩
            case measure => simp [intOf] <;> omega
          · have hkp : (0 : Int) < (k : Int) := by omega
            have hne : ¬ r.take k = [] := by
              intro h
              have := congrArg List.length h
              rw [List.length_take] at this
              simp only [List.length_nil] at this
              omega
            have HNE := hid hne
            clear hne
            go_wp2_with (first | (go_at_call 59; refine (WriteByte_any w.heap.size w.heap.size (Lib.byteCells L) 32 _ HB3.out (by omega) hz3).mono ?_; rintro e w3 ⟨rfl, ⟨hu, hb4⟩, hk4⟩; have hz4 := hb4.size; have htc := tok_kept hk4 (by omega)) | (go_at_call 37; refine (WriteString_any w.heap.size w.heap.size (Lib.byteCells L ++ [.int .u8 32]) (mk t.1) _ (.inr hu) (by simp only [List.length_append, List.length_singleton]; omega) (by omega)).mono ?_; rintro e w4 ⟨rfl, hu2, hb5⟩))
            go_roundw
            case rel => exact ⟨k + 1, by go_num, by omega, .inr (by rw [HN.out, if_neg HNE.out]; have h := hu2; rw [show Lib.strCells (mk t.1) = Lib.byteCells t.1 from rfl, show [Value.int .u8 32] = Lib.byteCells [32] from rfl, ← bc_app, ← bc_app, HL.out] at h; simpa using h), (Hb3.out.trans hb4).trans hb5⟩
            case measure => simp [intOf] <;> omega
        · obtain rfl : k = r.length := by omega
          have hbl : (Lib.byteCells (joinT (rows.take i) ++ rowJ (r.take r.length))).length = (joinT (rows.take i)).length + (rowJ r).length := by rw [Lib.byteCells_length]; simp
          have hPo := HP.out
          go_wp2_with (go_at_call 59; refine (WriteByte_any w.heap.size w.heap.size _ 10 _ hB2 (by omega) hz2).mono ?_; rintro e w3 ⟨rfl, ⟨hu, hb4⟩, _⟩)
          go_roundw
          case rel => exact ⟨i + 1, by go_num, by omega, .inr (by rw [take_one HR.out, joinT_snoc]; have h := hu; rw [show [Value.int .u8 10] = Lib.byteCells [10] from rfl, ← bc_app, List.take_length] at h; exact h), hb2.trans hb4⟩
          case measure => simp [intOf] <;> omega
    · obtain rfl : i = rows.length := by omega
      rw [List.take_length] at hB
      go_wp2_with (go_at_call 39; refine (Tryz.Builder_String_any w.heap.size w.heap.size (joinT rows) _ hB hz).mono ?_; rintro e w3 ⟨rfl, hb4⟩)
      go_ret
      exact ⟨rfl, hb.trans hb4⟩
end Go.Proofs.YtfalbdlfopfgcaaGreatDoor

