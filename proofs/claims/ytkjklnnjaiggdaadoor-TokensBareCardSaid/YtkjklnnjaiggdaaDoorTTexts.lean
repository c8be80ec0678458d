/- The texts of rows of words; rows of texts that read alike are the same. No condition. -/
import Derived.Test.YtkjklnnjaiggdaaDoorTSame
import Derived.Test.YtkjklnnjaiggdaaDoorTGridS
import Derived.Test.YtkjklnnjaiggdaaDoorTBack
namespace Go.Proofs.YtkjklnnjaiggdaaDoor
open Go.RowKit

def SameOS (w : World) (rows : List (List (List UInt8))) (i : Value) (wr : World) : Prop := ∃ (k n : Nat), i = .int .i64 k ∧ k ≤ rows.length ∧ wr = w.drewN n
def SameIS (w : World) (r : List (List UInt8)) (i : Value) (wr : World) : Prop := ∃ (k n : Nat), i = .int .i64 k ∧ k ≤ r.length ∧ wr = w.drewN n

/-- Reading a row of rows: the row's value, its cells. -/
theorem gridAtS {w : World} {base : Nat} {V : Value} {rows : List (List (List UInt8))} {vs : List Value} (h : GridS w base V rows vs) {i : Nat} {r : List (List UInt8)} (hr : rows[i]? = some r) :
    ∃ g cap ad sn sc, V = .slice (some ⟨g, 0, none⟩) rows.length cap ∧ base ≤ g ∧ w.cell? ⟨g, i, none⟩ = some (.slice ad r.length sc) ∧ vs[i]? = some (.slice ad r.length sc) ∧ (sn = rows.length ∧ rows.length ≤ maxLen ∧ r.length ≤ maxLen) ∧
      (∀ k t, r[k]? = some t → ∃ b, ad = some ⟨b, 0, none⟩ ∧ base ≤ b ∧ w.cell? ⟨b, k, none⟩ = some (.string (mk t))) := by
  have hi := (List.getElem?_eq_some_iff.1 hr).1
  have ho := h.out
  rcases ho.2 with ⟨_, h0⟩ | ⟨g, cap, cur, rfl, hb, hg, hn1, hn2, r1⟩
  · omega
  · obtain ⟨v, hv⟩ : ∃ v, vs[i]? = some v := ⟨vs[i]'(by have := h.len; omega), by simp⟩
    have hrow := h.row i v r hv hr
    have hc : w.cell? ⟨g, i, none⟩ = some v := by rw [ho.cellAt i (by omega)]; exact hv
    rcases hrow.2 with ⟨rfl, h0⟩ | ⟨b, cap2, cur2, rfl, hb2, hg2, hm1, hm2, r2⟩
    · refine ⟨g, cap, none, _, 0, rfl, hb, by rw [hc, h0], by rw [hv, h0], ⟨rfl, by omega, by omega⟩, ?_⟩
      intro k t hk
      have := (List.getElem?_eq_some_iff.1 hk).1
      omega
    · refine ⟨g, cap, some ⟨b, 0, none⟩, _, cap2, rfl, hb, hc, hv, ⟨rfl, by omega, by omega⟩, ?_⟩
      intro k t hk
      have hkl := (List.getElem?_eq_some_iff.1 hk).1
      refine ⟨b, rfl, hb2, ?_⟩
      rw [hrow.cellAt k (by omega)]
      simp [cellsS, hk]
theorem gridVS {w : World} {base : Nat} {V : Value} {rows : List (List (List UInt8))} {vs : List Value} (h : GridS w base V rows vs) : ∃ ad cap, V = .slice ad rows.length cap := by
  rcases h.out.2 with ⟨rfl, h0⟩ | ⟨g, cap, cur, rfl, hb, hg, r1⟩
  · exact ⟨none, 0, by rw [h0]⟩
  · exact ⟨_, cap, rfl⟩

set_option maxHeartbeats 2000000 in
theorem sameTexts_any (w : World) (b1 b2 : Nat) (A B : Value) (rows : List (List (List UInt8))) (va vb : List Value) (hA : GridS w b1 A rows va) (hB : GridS w b2 B rows vb) :
    Calls Tryd.prog 10 #[A, B] w fun e w' => e = .returned (.bool true) ∧ ∃ n, w' = w.drewN n := by
  obtain ⟨aa, ca, hVA⟩ := gridVS hA
  obtain ⟨ab, cb, hVB⟩ := gridVS hB
  subst hVA hVB
  have GA := hid hA
  have GB := hid hB
  clear hA hB
  go_enter Tryd.func10, Tryd.ntmps10
  go_wp2
  go_loopw [5, 6] (fun i _ wr => SameOS w rows i wr) (fun i _ _ => rows.length + 1 - (intOf i).toNat)
  case atStart => exact ⟨0, 0, rfl, by omega, rfl⟩
  case round =>
    obtain ⟨i, n, rfl, hi, rfl⟩ := hrel
    by_cases hil : i < rows.length
    · obtain ⟨r, hr⟩ : ∃ r, rows[i]? = some r := ⟨rows[i]'hil, by simp⟩
      obtain ⟨ga, cap1, ad1, _, sc1, e1, _, hc1, _, ⟨_, hl1, hl2⟩, ht1⟩ := gridAtS GA.out hr
      obtain ⟨gb, cap2, ad2, _, sc2, e2, _, hc2, _, _, ht2⟩ := gridAtS GB.out hr
      unfold maxLen at hl1 hl2
      cases e1
      cases e2
      have HT1 := hid ht1
      have HT2 := hid ht2
      clear ht1 ht2 hr
      go_wp2
      go_quiet (fail)
      go_wp2
      go_loopw [6] (fun k wr => SameIS w r k wr) (fun k _ => r.length + 1 - (intOf k).toNat)
      case atStart => exact ⟨0, _, rfl, by omega, drewN_two _ _ _⟩
      case round =>
        obtain ⟨k, n, rfl, hk, rfl⟩ := hrel
        by_cases hkl : k < r.length
        · obtain ⟨t, ht⟩ : ∃ t, r[k]? = some t := ⟨r[k]'hkl, by simp⟩
          obtain ⟨ba, rfl, _, x0⟩ := HT1.out k t ht
          obtain ⟨bb, rfl, _, y0⟩ := HT2.out k t ht
          clear ht
          go_wp2
          go_quiet (fail)
          go_wp2
          go_roundw
          case rel => exact ⟨k + 1, _, by go_num, by omega, rfl⟩
          case measure => simp [intOf] <;> omega
        · obtain rfl : k = r.length := by omega
          go_wp2
          go_roundw
          case rel => exact ⟨i + 1, _, by go_num, by omega, rfl⟩
          case measure => simp [intOf] <;> omega
    · obtain rfl : i = rows.length := by omega
      go_wp2
      go_ret
      exact ⟨rfl, _, rfl⟩

def TextO (w : World) (rows : List (List Tok)) (out i : Value) (wr : World) : Prop := ∃ (k : Nat) (vs : List Value), i = .int .i64 k ∧ k ≤ rows.length ∧ GridS wr w.heap.size out ((texts rows).take k) vs ∧ Below w.heap.size w wr
def TextI (w1 : World) (ts : List (List UInt8)) (line i : Value) (wr : World) : Prop := ∃ k : Nat, i = .int .i64 k ∧ k ≤ ts.length ∧ wr.ownsRow w1.heap.size 9 1 line k (cellsS (ts.take k)) ∧ Below w1.heap.size w1 wr
theorem texts_at {rows : List (List Tok)} {i : Nat} {r : List Tok} (h : rows[i]? = some r) : (texts rows)[i]? = some (r.map fun t => t.1) := by simp [texts, h]

set_option maxRecDepth 100000 in
set_option maxHeartbeats 1000000 in
theorem texts_any (w : World) (base : Nat) (V : Value) (rows : List (List Tok)) (va : List Value) (hG : Grid w base V rows va) (hsm : ∀ r ∈ rows, r.length ≤ 100000) (hrl : rows.length ≤ 70000) :
    Calls Tryd.prog 9 #[V] w fun e w' => ∃ V' vs, e = .returned V' ∧ GridS w' w.heap.size V' (texts rows) vs ∧ Below w.heap.size w w' := by
  obtain ⟨aa, ca, rfl⟩ := gridV hG
  have GA := hid hG
  have HS := hid hsm
  clear hG hsm
  go_enter Tryd.func9, Tryd.ntmps9
  go_wp2
  go_loopw [3, 4] (fun out i wr => TextO w rows out i wr) (fun _ i _ => rows.length + 1 - (intOf i).toNat)
  case atStart => exact ⟨0, [], rfl, by omega, by simpa using GridS.nil _ _, Below.refl _ _⟩
  case round =>
    obtain ⟨i, vs, rfl, hi, hO, hb⟩ := hrel
    have hz := hb.size
    by_cases hil : i < rows.length
    · obtain ⟨r, hr⟩ : ∃ r, rows[i]? = some r := ⟨rows[i]'hil, by simp⟩
      have hrl2 := HS.out r (List.mem_of_getElem? hr)
      have hta := texts_at hr
      obtain ⟨ts, hts⟩ : ∃ ts, ts = r.map fun t => t.1 := ⟨_, rfl⟩
      have htl : ts.length = r.length := by rw [hts]; simp
      rw [← hts] at hta
      have HTA := hid hta
      have HR := hid hr
      have HTS := hid hts
      have HO := hid hO
      clear hr hta hts hO
      go_wp2
      go_loopw [5, 6] (fun line k w' => TextI wr ts line k w') (fun _ k _ => r.length + 1 - (intOf k).toNat)
      case atStart => exact ⟨0, rfl, by omega, by simpa [cellsS] using World.ownsRow_nil _ _ _ _, Below.refl _ _⟩
      case round =>
        obtain ⟨k, rfl, hk, hown, hb2⟩ := hrel
        have hz2 := hb2.size
        obtain ⟨ga, cap1, ad1, _, sc1, e1, _, hc1, _, ⟨_, hl1, hl2⟩, hcell⟩ := gridAt ((GA.out.below hb).below (below_mono hb2 (Nat.le_refl _))) HR.out
        unfold maxLen at hl1 hl2
        cases e1
        by_cases hkl : k < r.length
        · obtain ⟨t, ht⟩ : ∃ t, r[k]? = some t := ⟨r[k]'hkl, by simp⟩
          obtain ⟨ba, rfl, _, x0, x1, x2⟩ := hcell k t ht
          have hnx : cellsS (ts.take (k + 1)) = cellsS (ts.take k) ++ [.string (mk t.1)] := by
            rw [take_one (x := t.1) (by rw [HTS.out]; simp [ht])]
            simp [cellsS]
          have HN := hid hnx
          clear hnx ht hcell
          go_wp2_with (at_builtin; refine wpList_app1 rfl _ _ 30 rfl _ 9 _ 16 Tryd.underlying30 info_str rfl _ k _ (.string _) rfl rfl rfl hown (by omega) (by omega) (by omega) ?_; intro v' w' h1 h2 h3)
          go_roundw
          case rel => exact ⟨k + 1, by go_num, by omega, by rw [HN.out]; exact h1, hb2.trans h2⟩
          case measure => simp [intOf] <;> omega
        · obtain rfl : k = r.length := by omega
          rw [← htl, List.take_length] at hown
          have hv : ∃ a n c, u5 = .slice a n c := by
            rcases hown.2 with ⟨rfl, _⟩ | ⟨g, cap, cur, rfl, _⟩
            · exact ⟨_, _, _, rfl⟩
            · exact ⟨_, _, _, rfl⟩
          obtain ⟨a5, n5, c5, rfl⟩ := hv
          have hnx : (texts rows).take (i + 1) = (texts rows).take i ++ [ts] := take_one HTA.out
          have HN := hid hnx
          clear hnx hcell
          go_wp2_with (at_builtin; refine wpList_appGS rfl _ _ 32 rfl Tryd.underlying32 _ w.heap.size _ _ vs HO.out hz hb2 (.slice a5 n5 c5) ts hown rfl rfl rfl (by rw [List.length_take]; omega) ?_; intro V' w' hG' hb' hz')
          go_roundw
          case rel => exact ⟨i + 1, _, by go_num, by omega, by rw [HN.out]; exact hG', hb.trans hb'⟩
          case measure => simp [intOf] <;> omega
    · obtain rfl : i = rows.length := by omega
      rw [show (texts rows).take rows.length = texts rows from List.take_of_length_le (by simp [texts])] at hO
      go_wp2
      go_ret
      exact ⟨_, vs, rfl, hO, hb⟩
end Go.Proofs.YtkjklnnjaiggdaaDoor
