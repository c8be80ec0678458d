/- gridworkref15: elements appended to elements; a reference's net; its elements, nodes, branches. Condition: kinds are bytes. -/
import Derived.Test.YtfnbohpfcdddgaaNRefK
import Derived.Test.YtfnbohpfcdddgaaNOfK
import Derived.Test.YtfnbohpfcdddgaaTSl
namespace Go.Proofs.Ytfnbohpfcdddgaa
open Go.RowKit

/-- A slice of elements; nil has no room. -/
def ElsN (w : World) (v : Value) (L : List El) : Prop := ElsAt w v L ∧ ∀ n cap, v = .slice none n cap → cap = 0
theorem ElsN.below {w w' : World} {v : Value} {L : List El} (h : ElsN w v L) (hb : Below w.heap.size w w') : ElsN w' v L := ⟨h.1.below hb, h.2⟩
theorem ElsN.of_owns {w : World} {B : Nat} {v : Value} {L : List El} (h : w.ownsRow B 74 8 v L.length (cellsL L)) : ElsN w v L := by
  refine ⟨ElsAt.of_owns h, fun n cap e => ?_⟩
  rcases h.2 with ⟨rfl, _⟩ | ⟨g, c, cur, rfl, _⟩
  · cases e; rfl
  · cases e
theorem cellsL_at : ∀ (L : List El) (j : Nat) (u : Value), (cellsL L)[j]? = some u → ∃ e, L[j / 8]? = some e ∧ (elC e)[j % 8]? = some u
  | [], j, u, h => by simp [cellsL] at h
  | e :: r, j, u, h => by
    have hc : cellsL (e :: r) = elC e ++ cellsL r := rfl
    rw [hc] at h
    have hl : (elC e).length = 8 := rfl
    by_cases hj : j < 8
    · rw [List.getElem?_append_left (by omega)] at h
      refine ⟨e, ?_, ?_⟩
      · rw [Nat.div_eq_of_lt hj]; rfl
      · rw [Nat.mod_eq_of_lt hj]; exact h
    · rw [List.getElem?_append_right (by omega), hl] at h
      obtain ⟨e', h1, h2⟩ := cellsL_at r (j - 8) u h
      refine ⟨e', ?_, ?_⟩
      · rw [show j / 8 = (j - 8) / 8 + 1 by omega]
        exact h1
      · rw [show j % 8 = (j - 8) % 8 by omega]
        exact h2
theorem cellsL_one (L : List El) : ∀ u ∈ cellsL L, u.oneCell' = true := by
  intro u hu
  unfold cellsL at hu
  obtain ⟨e, _, he⟩ := List.mem_flatMap.1 hu
  simp only [elC, List.mem_cons, List.not_mem_nil, or_false] at he
  rcases he with rfl | rfl | rfl | rfl | rfl | rfl | rfl | rfl <;> rfl

/-- 'out = append(out, l...)', l a slice of elements. -/
theorem wpList_appE {ops : Array Oper} {rest : List Oper} {o : Oper} {a : Act} {Q : Exit → Act → World → Prop} {w : World} (hgd : o.guard = none) (s x : Operand) (t : TypeId)
    (ho : o.op = .call { callee := .builtin .append, args := #[s, x], argTypes := #[t, t] }) (ht : Try.prog.underlying t = some (.slice 74))
    (base : Nat) (v : Value) (n : Nat) (xs : List Value) (vx : Value) (L : List El) (hs : a.eval s = v) (hx : a.eval x = vx) (hE : ElsN w vx L)
    (hown : w.ownsRow base 74 8 v n xs) (hbytes : (n + L.length) * 104 ≤ 140737488355328) (hbase : base ≤ w.heap.size)
    (h : ∀ v' w', w'.ownsRow base 74 8 v' (n + L.length) (xs ++ cellsL L) → Below base w w' → w.heap.size ≤ w'.heap.size → wpList Try.prog ops Q rest (a.put o.dst v') w') : wpList Try.prog ops Q (o :: rest) a w := by
  obtain ⟨i, hi, hz0, hz1, hz2⟩ := info_parts info_el
  obtain ⟨⟨ad, cap, rfl, hr⟩, hc⟩ := hE
  cases ad with
  | none =>
    have hy : L = [] := by
      cases L with
      | nil => rfl
      | cons e r => obtain ⟨b, off, e1, _⟩ := hr 0 e rfl; cases e1
    subst hy
    obtain rfl := hc _ _ rfl
    refine wpList_plain hgd fun K hK => ?_
    have hrun := run_append_owned_none (P := Try.prog) w base t o.type 74 i 8 ht hi v n xs hown
    unfold Oper.wp execOp
    simp only [ho, resolve, invoke, builtin, Sem.run_bind, Sem.run_pure, Result.andThen_ok, List.map_toArray, List.map_cons, List.map_nil, hs, hx]
    simp only [List.length_nil, hrun, Result.andThen_ok, Oper.upon_value]
    refine hK _ _ (h v w ?_ (Below.refl _ _) (Nat.le_refl _))
    simpa [cellsL] using hown
  | some ad =>
    refine wpList_append_own _ hgd s x t ho base 74 i _ 8 104 ht hi hz0 hz1 hz2 (by simp [Value.cells]) (by decide) v n xs hs hown ad L.length cap (cellsL L) hx (cellsL_len L) ?_ (cellsL_one L) (by unfold maxLen; omega) hbytes hbase ?_
    · intro j u hu
      obtain ⟨e, h1, h2⟩ := cellsL_at L j u hu
      obtain ⟨b, off, e1, hcell⟩ := hr _ e h1
      cases e1
      have h3 := hcell _ u h2
      rw [show off + j / 8 * 8 + j % 8 = off + j by omega] at h3
      unfold Addr.add
      split
      · subst j; exact h3
      · exact h3
    · intro v' w' h1 h2 _
      have hbl : Below base w w' := (Below.refl base w).grown h2 hbase (fun k hk => (hown.lt k hk).1)
      exact h v' w' h1 hbl hbl.size

/-- A reference's net in the block n. -/
def RfN (w : World) (n : Nat) (L : List El) : Prop := ∃ v, w.heap[n]? = some (.cells #[v, .bool true] 88 (0, 0)) ∧ ElsN w v L
theorem RfN.lt {w : World} {n : Nat} {L : List El} (h : RfN w n L) : n < w.heap.size := by
  obtain ⟨v, h1, _⟩ := h
  exact (Array.getElem?_eq_some_iff.1 h1).1
theorem RfN.below {w w' : World} {n : Nat} {L : List El} (h : RfN w n L) (hb : Below w.heap.size w w') : RfN w' n L := by
  have hl := h.lt
  obtain ⟨v, h1, h2⟩ := h
  exact ⟨v, by rw [hb.block n hl, h1], h2.below hb⟩
theorem RfN.cells {w : World} {n : Nat} {L : List El} (h : RfN w n L) : ∃ v, w.cell? ⟨n, 0, none⟩ = some v ∧ w.cell? ⟨n, 1, none⟩ = some (.bool true) ∧ ElsN w v L := by
  obtain ⟨v, h1, h2⟩ := h
  exact ⟨v, by simp [World.cell?, h1], by simp [World.cell?, h1], h2⟩
def RetQ (w : World) (L : List El) (E : Ending) (w' : World) : Prop := ∃ v, E = .returned v ∧ w'.ownsRow w.heap.size 74 8 v L.length (cellsL L) ∧ Below w.heap.size w w'
set_option maxRecDepth 100000 in
set_option maxHeartbeats 1000000 in
theorem rnone_any (n : Nat) (L : List El) (w : World) (h : RfN w n L) : Calls Try.prog 79 #[.pointer (some ⟨n, 0, none⟩)] w fun E w' => E = .returned (.bool false) ∧ w' = w := by
  obtain ⟨v, c0, c1, hE⟩ := h.cells
  go_enter Try.func79, Try.ntmps79
  go_wp2
  go_ret
  exact ⟨rfl, rfl⟩
set_option maxRecDepth 100000 in
set_option maxHeartbeats 1000000 in
theorem rElements_any (n : Nat) (L : List El) (w : World) (h : RfN w n L) (hl : L.length ≤ 1000) : Calls Try.prog 60 #[.pointer (some ⟨n, 0, none⟩)] w (RetQ w L) := by
  have HN := hid (rnone_any n L w h)
  obtain ⟨v, c0, c1, hE⟩ := h.cells
  go_enter Try.func60, Try.ntmps60
  go_wp2_with (first | (go_at_call 79; (with_reducible refine HN.out.mono ?_); rintro E1 w1 ⟨rfl, rfl⟩) | (at_builtin; go_loud (refine wpList_appE rfl _ _ 26 rfl Try.underlying26 w1.heap.size (.slice none 0 0) 0 [] v L rfl rfl hE (World.ownsRow_nil _ _ _ _) (by omega) (Nat.le_refl _) ?_; intro v' w' h1 h2 h3)))
  go_ret
  exact ⟨_, rfl, by simpa using h1, h2⟩

/-- The names of the branches. -/
def brF (L : List El) : List ByteArray := (L.filter fun e => brK e.kind).map (·.name)
theorem brF_snoc (L : List El) (e : El) : brF (L ++ [e]) = if brK e.kind = true then brF L ++ [e.name] else brF L := by
  unfold brF
  rw [List.filter_append]
  split
  · rename_i h; simp [h]
  · rename_i h; simp [h]
theorem brF_len (L : List El) : (brF L).length ≤ L.length := by
  unfold brF
  rw [List.length_map]
  exact List.length_filter_le _ _
def RetS (w : World) (ns : List ByteArray) (E : Ending) (w' : World) : Prop := ∃ v, E = .returned v ∧ w'.ownsRow w.heap.size 9 1 v ns.length (strL ns) ∧ Below w.heap.size w w'
theorem ownsRow_le {w : World} {base base' size n : Nat} {e : TypeId} {v : Value} {xs : List Value} (h : w.ownsRow base e size v n xs) (hb : base' ≤ base) : w.ownsRow base' e size v n xs :=
  ⟨h.1, h.2.elim Or.inl (fun ⟨g, cap, cur, hv, hg, r⟩ => Or.inr ⟨g, cap, cur, hv, Nat.le_trans hb hg, r⟩)⟩
def BrLoop (W : World) (L : List El) (i out : Value) (w : World) : Prop := ∃ k : Nat, i = .int .i64 k ∧ k ≤ L.length ∧ w.ownsRow W.heap.size 9 1 out (brF (L.take k)).length (strL (brF (L.take k))) ∧ Below W.heap.size W w
theorem el_snoc {L : List El} {k : Nat} {e : El} (h : L[k]? = some e) : L.take (k + 1) = L.take k ++ [e] := by
  rw [List.take_add_one, h]
  rfl
set_option maxRecDepth 100000 in
set_option maxHeartbeats 4000000 in
theorem rBranches_any (n : Nat) (L : List El) (w : World) (h : RfN w n L) (hl : L.length ≤ 1000) : Calls Try.prog 61 #[.pointer (some ⟨n, 0, none⟩)] w (RetS w (brF L)) := by
  have HN := hid (rElements_any n L w h hl)
  go_enter Try.func61, Try.ntmps61
  go_wp2_with (go_at_call 60; (with_reducible refine HN.out.mono ?_); rintro E1 w1 ⟨vl, rfl, hown, hb1⟩)
  have hE := ElsAt.of_owns hown
  clear hown
  go_loopw [5, 3] (fun i out w' => BrLoop w1 L i out w') (fun i _ _ => L.length + 1 - (intOf i).toNat)
  case atStart => exact ⟨0, rfl, by omega, World.ownsRow_nil _ _ _ _, Below.refl _ _⟩
  case round =>
    obtain ⟨k, rfl, hk, hown, hb⟩ := hrel
    have hE2 := hE.below hb
    clear hE
    obtain ⟨a, cap, rfl⟩ := hE2.form
    by_cases hkn : k < L.length
    · obtain ⟨e, he⟩ : ∃ e, L[k]? = some e := ⟨L[k]'hkn, List.getElem?_eq_getElem hkn⟩
      obtain ⟨b, off, rfl, hbl, c0, c1, -⟩ := hE2.at he
      have g1 : (k : Int) < (L.length : Int) := by omega
      have HS := hid (el_snoc he)
      have hle := brF_len (L.take k)
      have htl : (L.take k).length ≤ 1000 := by rw [List.length_take]; omega
      obtain ⟨ns, hns⟩ : ∃ ns, ns = brF (L.take k) := ⟨_, rfl⟩
      rw [← hns] at hown hle
      have HNS := hid hns
      clear hns he hE2
      have hz := hb.size
      by_cases hbk : brK e.kind = true
      · have HP := hid (show brF (L.take (k + 1)) = ns ++ [e.name] by rw [HS.out, brF_snoc, if_pos hbk, HNS.out])
        rcases (by simpa [brK] using hbk : e.kind = 5 ∨ e.kind = 7) with hk5 | hk5
        all_goals
          have b1 := hk5
          rw [hk5] at c0
          clear hbk hk5 b1
          go_wp2_with (at_builtin; refine wpList_app1 rfl _ _ 80 rfl w1.heap.size 9 _ 16 Try.underlying80 info_str rfl _ ns.length _ (.string e.name) rfl rfl rfl (by exact hown) (by first | omega | (simp; omega)) (by first | omega | (simp; omega)) (by first | omega | (simp; omega)) ?_; intro v' w' h1 h2 h3)
          go_roundw
          case rel => exact ⟨k + 1, by go_num, by omega, by rw [HP.out, List.length_append, strL_snoc]; exact h1, hb.trans h2⟩
          case measure => simp [intOf] <;> omega
      · have HP := hid (show brF (L.take (k + 1)) = ns by rw [HS.out, brF_snoc, if_neg hbk, HNS.out])
        have b1 : ((e.kind : Int) == 5) = false := by simp [brK] at hbk; simp; omega
        have b2 : ((e.kind : Int) == 7) = false := by simp [brK] at hbk; simp; omega
        have b3 : ((e.kind : Int) = 5) = False := by simp at b1; simp [b1]
        have b4 : ((e.kind : Int) = 7) = False := by simp at b2; simp [b2]
        clear hbk
        go_wp2
        go_roundw
        case rel => exact ⟨k + 1, by go_num, by omega, by rw [HP.out]; exact hown, hb⟩
        case measure => simp [intOf] <;> omega
    · obtain rfl : k = L.length := by omega
      rw [List.take_length] at hown
      clear hE2
      go_wp2
      go_ret
      exact ⟨_, rfl, ownsRow_le hown hb1.size, hb1.trans (hb.mono hb1.size)⟩
end Go.Proofs.Ytfnbohpfcdddgaa

