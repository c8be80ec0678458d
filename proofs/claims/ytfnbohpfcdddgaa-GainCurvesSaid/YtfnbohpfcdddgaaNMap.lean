/- Maps from names to places: what the call's own map tells of the list of its keys. No condition. -/
import Derived.Test.YtfnbohpfcdddgaaBase
import Derived.Test.YtfnbohpfcdddgaaNEl
import Derived.Maps.OwnSet
import Derived.Maps.AppendAt
import Derived.Maps.OwnOps
import Derived.StringKeys
namespace Go.Proofs.Ytfnbohpfcdddgaa
open Go.RowKit Go.Maps

def kS (s : ByteArray) : Lit := .string s.data.toList
theorem kS_inj {s t : ByteArray} (h : kS s = kS t) : s = t := by
  unfold kS at h
  injection h with h
  cases s; cases t
  simp only [ByteArray.mk.injEq]
  exact Array.toList_inj.1 h

/-- Is s one of ks? -/
def hasS (ks : List ByteArray) (s : ByteArray) : Bool := ks.any fun t => t.data.toList == s.data.toList
theorem bytes_inj {s t : ByteArray} (h : s.data.toList = t.data.toList) : s = t := by
  cases s; cases t
  simp only [ByteArray.mk.injEq]
  exact Array.toList_inj.1 h
theorem hasS_iff {ks : List ByteArray} {s : ByteArray} : hasS ks s = true ↔ s ∈ ks := by
  unfold hasS
  rw [List.any_eq_true]
  constructor
  · rintro ⟨t, h1, h2⟩
    have e : t = s := bytes_inj (by simpa using h2)
    rw [← e]
    exact h1
  · intro h
    exact ⟨s, h, by simp⟩
theorem hasS_snoc (ks : List ByteArray) (s t : ByteArray) : hasS (ks ++ [s]) t = (hasS ks t || (s.data.toList == t.data.toList)) := by simp [hasS]

/-- The map in block b tells the places of ks. -/
def MapN (w : World) (b : Nat) (ks : List ByteArray) : Prop :=
  ∃ D : DataW Unit, w.ownsMap Try.prog 9 (plainElem Try.prog 3) b ks.length D ∧ (∀ s, has D (kS s) = hasS ks s) ∧ ∀ (i : Nat) s, ks[i]? = some s → ∀ z, D.atKey (kS s) z = .lit (.int .i64 i)

theorem MapN.new (w : World) : MapN (w.alloc (.map #[] 0)) w.heap.size [] :=
  ⟨.map [], World.ownsMap_made w _ _ _, fun s => rfl, fun i s h => by simp at h⟩
theorem MapN.lt {w : World} {b : Nat} {ks : List ByteArray} (h : MapN w b ks) : b < w.heap.size := by
  obtain ⟨D, h, _⟩ := h
  exact h.lt
theorem MapN.kept {w w' : World} {b : Nat} {ks : List ByteArray} {row : Option Nat} (h : MapN w b ks) (hg : w.grownBy w' row) (hne : some b ≠ row) : MapN w' b ks := by
  obtain ⟨D, h1, h2⟩ := h
  exact ⟨D, h1.kept hg hne, h2⟩
theorem MapN.below {w w' : World} {b : Nat} {ks : List ByteArray} (h : MapN w b ks) (hb : Below w.heap.size w w') : MapN w' b ks :=
  h.kept ⟨hb.os, hb.tape, hb.output, hb.size, fun k hk _ => hb.block k hk⟩ (by simp : some b ≠ none)
theorem MapN.setCell {w : World} {b : Nat} {ks : List ByteArray} (h : MapN w b ks) {a : Addr} (ha : b ≠ a.block) (u : Value) : MapN (w.setCell a u) b ks := by
  obtain ⟨D, h1, h2⟩ := h
  exact ⟨D, h1.setCell ha u, h2⟩

theorem zeroI (w : World) : (zeroValue 3).run Try.prog w = .ok (.int .i64 0) w := by kernel_rfl
theorem lawS : Keyed Try.prog 9 := string_keyed Try.underlying9

set_option maxRecDepth 10000 in
/-- 'v, ok := m[k]', run. -/
theorem MapN.run {w : World} {b : Nat} {ks : List ByteArray} (h : MapN w b ks) {s : ByteArray} (hs : s.size ≤ maxLen) : ∃ c : Int, (Instr.lookup 79 (.map (some b)) (.string s) true).run Try.prog w = .ok (.tuple #[.int .i64 c, .bool (hasS ks s)]) w ∧ ∀ i : Nat, ks[i]? = some s → c = i := by
  obtain ⟨D, h1, h2, h3⟩ := h
  obtain ⟨v, ps, hrun, hv⟩ := h1.look_ok lawS Try.underlying79 (zeroI w) (plainElem_int Try.underlying3 (by decide)) (WideMaps.keyOf_string_mk Try.underlying9 hs)
  obtain ⟨c, rfl, hc, hwc⟩ := plainElem_int_inv Try.underlying3 hv
  refine ⟨c, ?_, ?_⟩
  · have h4 : has D (.string s.data.toList) = hasS ks s := h2 s
    rw [h4] at hrun
    exact hrun
  · intro i hi
    have : D.atKey (.string s.data.toList) (.lit (.int .i64 0)) = .lit (.int .i64 i) := h3 i s hi _
    have hc1 := congrArg Prod.fst hc
    simp only at hc1
    rw [this] at hc1
    injection hc1 with h
    injection h with _ h
    exact h.symm

/-- 'v, ok := m[k]'. -/
theorem wpList_look {w : World} {ops : Array Oper} {rest : List Oper} {o : Oper} {a : Act} {Q : Exit → Act → World → Prop} (hg : o.guard = none) (m x : Operand) (hop : o.op = Op.lookup 79 m x true)
    (b : Nat) (hm : a.eval m = .map (some b)) (ks : List ByteArray) (h : MapN w b ks) (s : ByteArray) (hx : a.eval x = .string s) (hs : s.size ≤ maxLen)
    (hK : ∀ c : Int, (∀ i : Nat, ks[i]? = some s → c = i) → wpList Try.prog ops Q rest (a.put o.dst (.tuple #[.int .i64 c, .bool (hasS ks s)])) w) :
    wpList Try.prog ops Q (o :: rest) a w := by
  obtain ⟨D, h1, h2, h3⟩ := h
  refine wpList_lookup_own_ok_int w hg m x _ hop 9 3 .i64 lawS Try.underlying79 Try.underlying3 (zeroI _) b _ D hm h1 _ (kS s) hx (WideMaps.keyOf_string_mk Try.underlying9 hs) ?_
  intro c hat _
  rw [h2]
  refine hK c ?_
  intro i hi
  rw [h3 i s hi] at hat
  injection hat with h
  injection h with _ h
  exact h.symm

/-- 'm[k] = len(..)'. -/
theorem wpList_upd {w : World} {ops : Array Oper} {rest : List Oper} {o : Oper} {a : Act} {Q : Exit → Act → World → Prop} (hg : o.guard = none) (hd : o.dst = none) (m x v : Operand) (hop : o.op = Op.mapUpdate 79 m x v)
    (b : Nat) (hm : a.eval m = .map (some b)) (ks : List ByteArray) (h : MapN w b ks) (hn : ks.length ≤ 100000) (s : ByteArray) (hx : a.eval x = .string s) (hs : s.size ≤ maxLen) (hv : a.eval v = .int .i64 ks.length) (hne : s ∉ ks)
    (hK : ∀ w', MapN w' b (ks ++ [s]) → w.grownBy w' (some b) → wpList Try.prog ops Q rest a w') :
    wpList Try.prog ops Q (o :: rest) a w := by
  obtain ⟨D, h1, h2, h3⟩ := h
  refine wpList_mapUpdate_own w hg m x v _ hop 9 3 lawS Try.underlying79 _ b _ D hm h1 (by unfold maxLen; omega) _ _ (kS s) hx hv (WideMaps.keyOf_string_mk Try.underlying9 hs) (.lit (.int .i64 ks.length)) [] (plainElem_int Try.underlying3 (by simp [Lit.wf, IntKind.min, IntKind.max, IntKind.signed, IntKind.bits]; omega)) ?_
  intro w' r1 r2
  rw [hd]
  refine hK w' ⟨_, by simpa using r1, ?_, ?_⟩ r2
  · intro t
    by_cases ht : t = s
    · subst ht
      rw [has_put_same h1.isMap (by trivial), hasS_snoc]
      simp
    · rw [has_put_other (fun e => ht (kS_inj e)), h2, hasS_snoc]
      have : (s.data.toList == t.data.toList) = false := by
        simp only [beq_eq_false_iff_ne, ne_eq]
        exact fun e => ht (bytes_inj e).symm
      rw [this, Bool.or_false]
  · intro i t hi z
    by_cases hl : i < ks.length
    · rw [List.getElem?_append_left hl] at hi
      have : t ≠ s := fun e => hne (e ▸ List.mem_of_getElem? hi)
      rw [atKey_put_other (fun e => this (kS_inj e)), h3 i t hi]
    · rw [List.getElem?_append_right (by omega)] at hi
      obtain rfl : i = ks.length := by
        have := (List.getElem?_eq_some_iff.1 hi).1
        simp at this
        omega
      simp at hi
      subst hi
      rw [atKey_put_same h1.isMap (by trivial)]
end Go.Proofs.Ytfnbohpfcdddgaa

