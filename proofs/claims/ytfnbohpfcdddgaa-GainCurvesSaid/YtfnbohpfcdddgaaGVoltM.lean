/- A node's volts in a solution: phasor.Volt, and the reference's. Conditions: lengths as a net has them. gridworkref20.Volt. Conditions: lengths as a net has them. -/
import Derived.Test.YtfnbohpfcdddgaaGNet
import Derived.Test.YtfnbohpfcdddgaaNLadM
import Derived.Test.YtfnbohpfcdddgaaKitCM
import Derived.Test.YtfnbohpfcdddgaaGR20
namespace Go.Proofs.Ytfnbohpfcdddgaa
open Go.RowKit Go.Maps

/-- Where a node stands. -/
def plc (nodes : List ByteArray) (s : ByteArray) : Nat := nodes.findIdx fun t => t.data.toList == s.data.toList
theorem plc_get {nodes : List ByteArray} {s : ByteArray} (h : hasS nodes s = true) : nodes[plc nodes s]? = some s := by
  have h2 : ∃ x ∈ nodes, (fun t : ByteArray => t.data.toList == s.data.toList) x = true := by simpa [hasS] using h
  have hlt : plc nodes s < nodes.length := List.findIdx_lt_length.2 h2
  have := List.findIdx_getElem (w := hlt)
  rw [List.getElem?_eq_getElem hlt]
  exact congrArg some (bytes_inj (eq_of_beq this))
theorem plc_first {nodes : List ByteArray} {s : ByteArray} {k : Nat} {t : ByteArray} (hk : ∀ j : Nat, j < k → ∀ x, nodes[j]? = some x → (x.data.toList == s.data.toList) = false) (ht : nodes[k]? = some t) (he : (t.data.toList == s.data.toList) = true) : plc nodes s = k := by
  have hlt := (List.getElem?_eq_some_iff.1 ht).1
  refine (List.findIdx_eq hlt).2 ⟨?_, ?_⟩
  · rw [(List.getElem?_eq_some_iff.1 ht).2]
    exact he
  · intro j hj
    exact hk j hj _ (List.getElem?_eq_getElem (by omega))
def zero8 : ByteArray := ⟨#[48]⟩
theorem zero_iff (s : ByteArray) : (s.toList == [48]) = true ↔ s = zero8 := by
  rw [beq_iff_eq, ByteArray.toList_eq]
  constructor
  · intro h
    exact bytes_inj h
  · rintro rfl
    rfl
/-- A node's volts. -/
def voltF (nodes br : List ByteArray) (xs ys : List Z) (s : ByteArray) : Z × Int :=
  if xs.length = nodes.length ∧ ys.length = br.length then
    (if hasS nodes s = true then (xs.getD (plc nodes s) (0, 0), 0) else if s = zero8 then ((0, 0), 0) else ((0, 0), 10))
  else ((0, 0), 4)
def RetZ (w : World) (r : Z × Int) (E : Ending) (w' : World) : Prop := E = .returned (.tuple #[.complex .f64 r.1.1 r.1.2, .int .i64 r.2]) ∧ Below w.heap.size w w'
/-- A solution in a value: the lists lie. -/
def SolAt (w : World) (v : Value) (xs ys : List Z) : Prop := ∃ o a c b d, v = .agg #[.float .f64 o, .slice a xs.length c, .slice b ys.length d] ∧ Sl w (.slice a xs.length c) (xs.map C) ∧ Sl w (.slice b ys.length d) (ys.map C)
theorem SolAt.below {w w' : World} {v : Value} {xs ys : List Z} (h : SolAt w v xs ys) (hb : Below w.heap.size w w') : SolAt w' v xs ys := by
  obtain ⟨o, a, c, b, d, rfl, h1, h2⟩ := h
  exact ⟨o, a, c, b, d, rfl, h1.below hb, h2.below hb⟩
section
variable {w : World} {B : Nat} {N : NB} {V : NV} {l : List El} {nodes br ks ps bs : List ByteArray}
set_option maxRecDepth 100000 in
set_option maxHeartbeats 1000000 in
theorem at_no (K : NetR w B N V l nodes br ks nodes bs) (s : ByteArray) (hs : s.size ≤ maxLen) (hh : hasS nodes s = false) (v : Value) :
    Calls Try.prog 64 #[.func (.func 65) #[.pointer (some ⟨N.n, 0, none⟩)] #[], v, .string s] w fun E w' => E = .returned (.tuple #[.complex .f64 0 0, .bool false]) ∧ w' = w := by
  have HP := nPlace_any K s hs
  rw [hh] at HP
  have HP := hid HP
  go_enter Try.func64, Try.ntmps64
  go_wp2_with (go_at_call 65; (with_reducible refine HP.out.mono ?_); rintro E1 w1 ⟨⟨c, rfl, hc⟩, rfl⟩)
  go_ret2
  exact ⟨rfl, rfl⟩
set_option maxRecDepth 100000 in
set_option maxHeartbeats 1000000 in
theorem at_yes (K : NetR w B N V l nodes br ks nodes bs) (s : ByteArray) (hs : s.size ≤ maxLen) (hh : hasS nodes s = true) (xs : List Z) (a : Option Addr) (cap : Nat) (hn : xs.length = nodes.length) (hx : Sl w (.slice a xs.length cap) (xs.map C)) :
    Calls Try.prog 64 #[.func (.func 65) #[.pointer (some ⟨N.n, 0, none⟩)] #[], .slice a xs.length cap, .string s] w fun E w' => E = .returned (.tuple #[.complex .f64 (xs.getD (plc nodes s) (0, 0)).1 (xs.getD (plc nodes s) (0, 0)).2, .bool true]) ∧ w' = w := by
  have HP := nPlace_any K s hs
  rw [hh] at HP
  have HP := hid HP
  have hg := plc_get hh
  have hlt := (List.getElem?_eq_some_iff.1 hg).1
  obtain ⟨⟨x, y⟩, hz⟩ : ∃ z, xs[plc nodes s]? = some z := ⟨_, List.getElem?_eq_getElem (by omega)⟩
  obtain ⟨a', cap', e1, hc⟩ := hx.cz
  cases e1
  obtain ⟨b, off, rfl, cz⟩ := hc _ _ hz
  have HD := hid (show xs.getD (plc nodes s) (0, 0) = (x, y) by rw [List.getD_eq_getElem?_getD, hz]; rfl)
  have g1 : ((plc nodes s : Nat) : Int) < (xs.length : Int) := by omega
  rw [HD.out]
  clear hc hx
  go_enter Try.func64, Try.ntmps64
  go_wp2_with (go_at_call 65; (with_reducible refine HP.out.mono ?_); rintro E1 w1 ⟨⟨c, rfl, hc⟩, rfl⟩; obtain rfl := hc _ hg)
  go_ret2
  exact ⟨rfl, rfl⟩
set_option maxRecDepth 100000 in
set_option maxHeartbeats 1000000 in
theorem Volt_any (K : NetR w B N V l nodes br ks nodes bs) (hh : hasS ks ⟨#[]⟩ = false) (hn : nodes.length ≤ 4000) (hbr : br.length ≤ 4000) (xs ys : List Z) (v : Value) (hv : SolAt w v xs ys) (hnn : xs.length ≤ 140737488355328) (hmm : ys.length ≤ 140737488355328) (s : ByteArray) (hs : s.size ≤ maxLen) :
    Calls Try.prog 34 #[.pointer (some ⟨N.n, 0, none⟩), v, .string s] w (RetZ w (voltF nodes br xs ys s)) := by
  obtain ⟨o, a, c, b, d, rfl, h1, h2⟩ := hv
  have b0 : Below w.heap.size w (w.alloc (.cells #[.float .f64 o, .slice a xs.length c, .slice b ys.length d] 46)) := (Below.refl _ w).alloc (Nat.le_refl _) _
  have hblk := blk_new w (.cells #[.float .f64 o, .slice a xs.length c, .slice b ys.length d] 46)
  have HF := hid (fits_any (K.below b0) hh hn hbr o a b xs.length ys.length c d hnn hmm)
  go_enter Try.func34, Try.ntmps34
  by_cases hf : xs.length = nodes.length ∧ ys.length = br.length
  · have e1 : fitF xs.length ys.length nodes.length br.length = 0 := by unfold fitF; rw [if_pos hf]
    have HX := hid hf
    clear hf
    rw [e1] at HF
    go_upto_region 4 with (go_at_call 63; go_loud ((with_reducible refine HF.out.mono ?_); rintro E1 w1 ⟨rfl, hb1⟩))
    have b1 : Below w.heap.size w w1 := b0.trans (hb1.mono (by simp))
    have hblk1 := (hb1.block w.heap.size (by simp)).trans hblk
    have k1 : w1.cell? ⟨w.heap.size, 1, none⟩ = some (.slice a xs.length c) := by simp [World.cell?, hblk1]
    have K1 := K.below b1
    have X1 := h1.below b1
    clear hblk hblk1 hb1 b0 HF
    by_cases hp : hasS nodes s = true
    · have HV := hid (show voltF nodes br xs ys s = (xs.getD (plc nodes s) (0, 0), 0) by unfold voltF; rw [if_pos HX.out, if_pos hp])
      have HA := hid (at_yes K1 s hs hp xs a c HX.out.1 X1)
      go_wp2_with (go_at_call 64; (with_reducible refine HA.out.mono ?_); rintro E2 w2 ⟨rfl, rfl⟩)
      go_ret2
      exact ⟨by rw [HV.out]; rfl, b1⟩
    · have hp0 : hasS nodes s = false := by simpa using hp
      have HA := hid (at_no K1 s hs hp0 (.slice a xs.length c))
      by_cases h0 : s = zero8
      · have HV := hid (show voltF nodes br xs ys s = ((0, 0), 0) by unfold voltF; rw [if_pos HX.out, if_neg hp, if_pos h0])
        have g0 : (s.toList == [48]) = true := (zero_iff s).2 h0
        clear h0
        go_wp2_with (go_at_call 64; (with_reducible refine HA.out.mono ?_); rintro E2 w2 ⟨rfl, rfl⟩)
        go_ret2
        exact ⟨by rw [HV.out]; rfl, b1⟩
      · have HV := hid (show voltF nodes br xs ys s = ((0, 0), 10) by unfold voltF; rw [if_pos HX.out, if_neg hp, if_neg h0])
        have g0 : (s.toList == [48]) = false := by
          cases hh2 : (s.toList == [48])
          · rfl
          · exact absurd ((zero_iff s).1 hh2) h0
        go_wp2_with (go_at_call 64; (with_reducible refine HA.out.mono ?_); rintro E2 w2 ⟨rfl, rfl⟩)
        go_ret2
        exact ⟨by rw [HV.out]; rfl, b1⟩
  · have e1 : fitF xs.length ys.length nodes.length br.length = 4 := by unfold fitF; rw [if_neg hf]
    have HX := hid hf
    clear hf
    rw [e1] at HF
    have HV := hid (show voltF nodes br xs ys s = ((0, 0), 4) by unfold voltF; rw [if_neg HX.out])
    go_wp2_with (go_at_call 63; (with_reducible refine HF.out.mono ?_); rintro E1 w1 ⟨rfl, hb1⟩)
    go_ret2
    exact ⟨by rw [HV.out]; rfl, b0.trans (hb1.mono (by simp))⟩
end
end Go.Proofs.Ytfnbohpfcdddgaa

namespace Go.Proofs.Ytfnbohpfcdddgaa
open Go.RowKit Go.Maps

theorem Sl.cs {w : World} {v : Value} {p : List ByteArray} (h : Sl w v (strL p)) : ∃ a cap, v = .slice a p.length cap ∧ (∀ (k : Nat) (z : ByteArray), p[k]? = some z → ∃ b off, a = some ⟨b, off, none⟩ ∧ w.cell? ⟨b, off + k, none⟩ = some (.string z)) := by
  obtain ⟨a, cap, rfl, hr, hc, hl⟩ := h
  refine ⟨a, cap, by simp [strL], fun k z hz => ?_⟩
  have hx : (strL p)[k]? = some (.string z) := by unfold strL; rw [List.getElem?_map, hz]; rfl
  obtain ⟨b, off, e, hcell⟩ := hr.at hx
  exact ⟨b, off, e, hcell k _ hx⟩
def RvLoop (w1 : World) (nodes : List ByteArray) (s : ByteArray) (i : Value) (wr : World) : Prop := ∃ k : Nat, k ≤ nodes.length ∧ i = .int .i64 k ∧ (∀ j : Nat, j < k → ∀ x, nodes[j]? = some x → (x.data.toList == s.data.toList) = false) ∧ wr = w1
set_option maxRecDepth 100000 in
set_option maxHeartbeats 4000000 in
theorem rVolt_any {w : World} {r : Nat} {L : List El} (K : RfN w r L) (hL : L.length ≤ 1000) (nodes : List ByteArray) (hno : nodesF L = nodes) (xs ys : List Z) (v : Value) (hv : SolAt w v xs ys) (hnn : xs.length ≤ 140737488355328) (hmm : ys.length ≤ 140737488355328) (s : ByteArray) (hzn : hasS nodes zero8 = false) :
    Calls Try.prog 36 #[.pointer (some ⟨r, 0, none⟩), v, .string s] w (RetZ w (voltF nodes (brF L) xs ys s)) := by
  obtain ⟨o, a, c, b, d, rfl, h1, h2⟩ := hv
  have hnl : nodes.length ≤ 4000 := by
    rw [← hno]
    have := nodesF_len L
    omega
  have b0 : Below w.heap.size w (w.alloc (.cells #[.float .f64 o, .slice a xs.length c, .slice b ys.length d] 46)) := (Below.refl _ w).alloc (Nat.le_refl _) _
  have hblk := blk_new w (.cells #[.float .f64 o, .slice a xs.length c, .slice b ys.length d] 46)
  have HF := rFits_any (K.below b0) hL o a b xs.length ys.length c d hnn hmm
  rw [hno] at HF
  have HF := hid HF
  go_enter Try.func36, Try.ntmps36
  by_cases hf : xs.length = nodes.length ∧ ys.length = (brF L).length
  · have e1 : fitF xs.length ys.length nodes.length (brF L).length = 0 := by unfold fitF; rw [if_pos hf]
    have HX := hid hf
    clear hf
    rw [e1] at HF
    cases hs0 : (s.toList == [48])
    · go_upto_region 6 with (go_at_call 66; (with_reducible refine HF.out.mono ?_); rintro E1 w1 ⟨rfl, hb1⟩)
      have b1 : Below w.heap.size w w1 := b0.trans (hb1.mono (by simp))
      have hblk1 := (hb1.block w.heap.size (by simp)).trans hblk
      have hwl : w.heap.size < w1.heap.size := (Array.getElem?_eq_some_iff.1 hblk1).1
      have HN := rNodes_any r L w1 (K.below b1) hL
      rw [hno] at HN
      have HN := hid HN
      go_upto_region 7 with (go_at_call 30; (with_reducible refine HN.out.mono ?_); rintro E2 w2 ⟨v2, rfl, own2, hb2⟩)
      have hblk2 := (hb2.block w.heap.size hwl).trans hblk1
      have k1 : w2.cell? ⟨w.heap.size, 1, none⟩ = some (.slice a xs.length c) := by simp [World.cell?, hblk2]
      have b2 : Below w.heap.size w w2 := bl2 b1 hb2
      have X2 := h1.below b2
      obtain ⟨ga, gc, rfl, hcs⟩ := (Sl.of_owns own2).cs
      have hs0' := hid hs0
      clear hblk hblk1 hblk2 hb1 hb2 b0 HF HN own2
      go_wp2
      go_loopw [10] (fun i w' => RvLoop w2 nodes s i w') (fun i _ => nodes.length + 1 - (intOf i).toNat)
      case atStart => exact ⟨0, Nat.zero_le _, rfl, (fun j hj => by omega), rfl⟩
      case round =>
        obtain ⟨k, hk, rfl, hno2, rfl⟩ := hrel
        by_cases hkn : k < nodes.length
        · obtain ⟨t, ht⟩ : ∃ t, nodes[k]? = some t := ⟨nodes[k]'hkn, List.getElem?_eq_getElem hkn⟩
          obtain ⟨nb, noff, rfl, cn⟩ := hcs _ _ ht
          have g1 : (k : Int) < (nodes.length : Int) := by omega
          have HT := hid ht
          have HNO := hid hno2
          clear ht hcs hno2
          cases hts : (t.toList == s.toList)
          · go_wp2
            go_roundw
            case rel =>
              refine ⟨k + 1, by omega, by go_num, fun j hj x hx => ?_, rfl⟩
              by_cases hjk : j = k
              · subst hjk
                rw [HT.out] at hx
                cases hx
                rw [ByteArray.toList_eq, ByteArray.toList_eq] at hts
                exact hts
              · exact HNO.out j (by omega) x hx
            case measure => simp [intOf] <;> omega
          · have hts2 : (t.data.toList == s.data.toList) = true := by
              rw [ByteArray.toList_eq, ByteArray.toList_eq] at hts
              exact hts
            have hp := plc_first HNO.out HT.out hts2
            have hh : hasS nodes s = true := by
              rw [hasS_iff, ← bytes_inj (eq_of_beq hts2)]
              exact List.mem_of_getElem? HT.out
            have HXL := HX.out.1
            obtain ⟨⟨x, y⟩, hz⟩ : ∃ z, xs[k]? = some z := ⟨_, List.getElem?_eq_getElem (by omega)⟩
            obtain ⟨a', cap', ee, hc⟩ := X2.cz
            cases ee
            obtain ⟨bx, offx, rfl, cx⟩ := hc _ _ hz
            have HV := hid (show voltF nodes (brF L) xs ys s = ((x, y), 0) by
              unfold voltF
              rw [if_pos HX.out, if_pos hh, hp, List.getD_eq_getElem?_getD, hz]
              rfl)
            have g2 : (k : Int) < (xs.length : Int) := by omega
            clear hc hp hh hz hts2 HXL
            go_wp2
            go_ret2
            exact ⟨by rw [HV.out]; rfl, b2⟩
        · obtain rfl : k = nodes.length := by omega
          have hh : ¬ hasS nodes s = true := by
            intro h
            rw [hasS_iff] at h
            obtain ⟨j, hj⟩ := List.getElem?_of_mem h
            have hjl := (List.getElem?_eq_some_iff.1 hj).1
            have := hno2 j hjl _ hj
            simp at this
          have HV := hid (show voltF nodes (brF L) xs ys s = ((0, 0), 10) by
            unfold voltF
            rw [if_pos HX.out, if_neg hh, if_neg]
            intro e
            have := (zero_iff s).2 e
            rw [hs0'.out] at this
            cases this)
          clear hh hcs hno2
          go_wp2
          go_ret2
          exact ⟨by rw [HV.out]; rfl, b2⟩
    · have hsz := (zero_iff s).1 hs0
      have HV := hid (show voltF nodes (brF L) xs ys s = ((0, 0), 0) by
        unfold voltF
        rw [if_pos HX.out, hsz, if_neg (by rw [hzn]; simp), if_pos rfl])
      clear hsz
      go_wp2_with (go_at_call 66; (with_reducible refine HF.out.mono ?_); rintro E1 w1 ⟨rfl, hb1⟩)
      go_ret2
      exact ⟨by rw [HV.out]; rfl, b0.trans (hb1.mono (by simp))⟩
  · have e1 : fitF xs.length ys.length nodes.length (brF L).length = 4 := by unfold fitF; rw [if_neg hf]
    rw [e1] at HF
    have HV := hid (show voltF nodes (brF L) xs ys s = ((0, 0), 4) by unfold voltF; rw [if_neg hf])
    have HX := hid hf
    clear hf
    go_wp2_with (go_at_call 66; (with_reducible refine HF.out.mono ?_); rintro E1 w1 ⟨rfl, hb1⟩)
    go_ret2
    exact ⟨by rw [HV.out]; rfl, b0.trans (hb1.mono (by simp))⟩
end Go.Proofs.Ytfnbohpfcdddgaa
