/- Rows of rows that read alike are the same. No condition. -/
import Derived.Test.YtfalbdlfopfgcaaGreatDoorTCuts
namespace Go.Proofs.YtfalbdlfopfgcaaGreatDoor
open Go.RowKit

def SameO (w : World) (rows : List (List Tok)) (i : Value) (wr : World) : Prop := ∃ (k n : Nat), i = .int .i64 k ∧ k ≤ rows.length ∧ wr = w.drewN n
def SameI (w : World) (r : List Tok) (i : Value) (wr : World) : Prop := ∃ (k n : Nat), i = .int .i64 k ∧ k ≤ r.length ∧ wr = w.drewN n

/-- Reading a row of rows: the row's value, its cells. -/
theorem gridAt {w : World} {base : Nat} {V : Value} {rows : List (List Tok)} {vs : List Value} (h : Grid w base V rows vs) {i : Nat} {r : List Tok} (hr : rows[i]? = some r) :
    ∃ g cap ad sn sc, V = .slice (some ⟨g, 0, none⟩) rows.length cap ∧ base ≤ g ∧ w.cell? ⟨g, i, none⟩ = some (.slice ad r.length sc) ∧ vs[i]? = some (.slice ad r.length sc) ∧ (sn = rows.length ∧ rows.length ≤ maxLen ∧ r.length ≤ maxLen) ∧
      (∀ k t, r[k]? = some t → ∃ b, ad = some ⟨b, 0, none⟩ ∧ base ≤ b ∧ w.cell? ⟨b, k * 3, none⟩ = some (.string (mk t.1)) ∧ w.cell? ⟨b, k * 3 + 1, none⟩ = some (.int .i64 t.2.1) ∧ w.cell? ⟨b, k * 3 + 2, none⟩ = some (.int .i64 t.2.2)) := by
  have hi := (List.getElem?_eq_some_iff.1 hr).1
  have ho := h.out
  rcases ho.2 with ⟨_, h0⟩ | ⟨g, cap, cur, rfl, hb, hg, hn1, hn2, r1⟩
  · omega
  · obtain ⟨v, hv⟩ : ∃ v, vs[i]? = some v := ⟨vs[i]'(by have := h.len; omega), by simp⟩
    have hrow := h.row i v r hv hr
    have hc : w.cell? ⟨g, i, none⟩ = some v := by rw [ho.cellAt i (by omega)]; exact hv
    rcases hrow.2 with ⟨rfl, h0⟩ | ⟨b, cap2, cur2, rfl, hb2, hg2, hm1, hm2, r2⟩
    · refine ⟨g, cap, none, _, 0, rfl, hb, by rw [hc, h0], by rw [hv, h0], ⟨rfl, by omega, by omega⟩, ?_⟩
      intro k t hk
      have := (List.getElem?_eq_some_iff.1 hk).1
      omega
    · refine ⟨g, cap, some ⟨b, 0, none⟩, _, cap2, rfl, hb, hc, hv, ⟨rfl, by omega, by omega⟩, ?_⟩
      intro k t hk
      have hkl := (List.getElem?_eq_some_iff.1 hk).1
      refine ⟨b, rfl, hb2, ?_, ?_, ?_⟩
      · rw [hrow.cellAt (k * 3) (by omega), show k * 3 = k * 3 + 0 from rfl, cellsOf_at hk (by omega)]; rfl
      · rw [hrow.cellAt (k * 3 + 1) (by omega), cellsOf_at hk (by omega)]; rfl
      · rw [hrow.cellAt (k * 3 + 2) (by omega), cellsOf_at hk (by omega)]; rfl
theorem gridV {w : World} {base : Nat} {V : Value} {rows : List (List Tok)} {vs : List Value} (h : Grid w base V rows vs) : ∃ ad cap, V = .slice ad rows.length cap := by
  rcases h.out.2 with ⟨rfl, h0⟩ | ⟨g, cap, cur, rfl, hb, hg, r1⟩
  · exact ⟨none, 0, by rw [h0]⟩
  · exact ⟨_, cap, rfl⟩

theorem drewN_two (w : World) (n m : Nat) : (w.drewN n).drewN m = w.drewN (n + m) := by simp [World.drewN, Nat.add_assoc]

set_option maxHeartbeats 2000000 in
theorem same_any (w : World) (b1 b2 : Nat) (A B : Value) (rows : List (List Tok)) (va vb : List Value) (hA : Grid w b1 A rows va) (hB : Grid w b2 B rows vb) :
    Calls Tryz.prog 10 #[A, B] w fun e w' => e = .returned (.bool true) ∧ ∃ n, w' = w.drewN n := by
  obtain ⟨aa, ca, hVA⟩ := gridV hA
  obtain ⟨ab, cb, hVB⟩ := gridV hB
  subst hVA hVB
  have GA := hid hA
  have GB := hid hB
  clear hA hB
  go_enter Tryz.func10, Tryz.ntmps10
  go_wp2
  go_loopw [5, 6] (fun i _ wr => SameO w rows i wr) (fun i _ _ => rows.length + 1 - (intOf i).toNat)
  case atStart => exact ⟨0, 0, rfl, by omega, rfl⟩
  case round =>
    obtain ⟨i, n, rfl, hi, rfl⟩ := hrel
    by_cases hil : i < rows.length
    · obtain ⟨r, hr⟩ : ∃ r, rows[i]? = some r := ⟨rows[i]'hil, by simp⟩
      obtain ⟨ga, cap1, ad1, _, sc1, e1, _, hc1, _, ⟨_, hl1, hl2⟩, ht1⟩ := gridAt GA.out hr
      obtain ⟨gb, cap2, ad2, _, sc2, e2, _, hc2, _, _, ht2⟩ := gridAt GB.out hr
      unfold maxLen at hl1 hl2
      cases e1
      cases e2
      have HT1 := hid ht1
      have HT2 := hid ht2
      clear ht1 ht2 hr
      go_wp2
      go_quiet (fail)
      go_wp2
      go_loopw [6] (fun k wr => SameI w r k wr) (fun k _ => r.length + 1 - (intOf k).toNat)
      case atStart => exact ⟨0, _, rfl, by omega, drewN_two _ _ _⟩
      case round =>
        obtain ⟨k, n, rfl, hk, rfl⟩ := hrel
        by_cases hkl : k < r.length
        · obtain ⟨t, ht⟩ : ∃ t, r[k]? = some t := ⟨r[k]'hkl, by simp⟩
          obtain ⟨ba, rfl, _, x0, x1, x2⟩ := HT1.out k t ht
          obtain ⟨bb, rfl, _, y0, y1, y2⟩ := HT2.out k t ht
          clear ht
          go_wp2
          go_quiet (fail)
          go_wp2
          go_roundw
          case rel => exact ⟨k + 1, _, by go_num, by omega, rfl⟩
          case measure => simp [intOf] <;> omega
        · obtain rfl : k = r.length := by omega
          go_wp2
          go_roundw
          case rel => exact ⟨i + 1, _, by go_num, by omega, rfl⟩
          case measure => simp [intOf] <;> omega
    · obtain rfl : i = rows.length := by omega
      go_wp2
      go_ret
      exact ⟨rfl, _, rfl⟩
end Go.Proofs.YtfalbdlfopfgcaaGreatDoor

