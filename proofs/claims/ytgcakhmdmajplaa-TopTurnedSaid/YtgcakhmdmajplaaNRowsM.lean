/- gridworkref13.Rows: the reference's table. No condition. gridworkref13, gridworkref01.Kind: the reference's table of kinds, names, nodes. Condition: a kind, a letter is a byte. How two reals stand to each other: as two whole numbers, their keys (a word's lower 63 bits, with its sign). No program; condition: words of 64 bits, no NaN. gridworkref01.Kind, gridworkref13.Check. Condition: a kind is a byte; words have 64 bits. gridworkref15: elements appended to elements; a reference's net; its elements, nodes, branches. Condition: kinds are bytes. gridworkref15: a net's nodes. Condition: kinds are bytes. gridworkref15.Of: it answers as netlist.Of. Conditions: kinds are bytes, Values have 64 bits. -/
import Derived.Test.YtgcakhmdmajplaaNChk
import Derived.Test.YtgcakhmdmajplaaFlM
import Derived.Test.YtgcakhmdmajplaaNPutKM
import Derived.StillTailTactics
import Derived.Deep.AppendLies
import Derived.BigQuiet
import Derived.Deep.QuietTactic
namespace Go.Proofs.Ytgcakhmdmajplaa
open Go.RowKit

def rrowC (k : Nat) : List Value := [.int .u8 (if okK k = true then k else 0 : Nat), .int .u8 (letK k), .string (unitK k), .bool (abK k), .bool (phK k), .bool (fourK k)]
def rrowV (k : Nat) : Value := .agg #[.int .u8 (if okK k = true then k else 0 : Nat), .int .u8 (letK k), .string (unitK k), .bool (abK k), .bool (phK k), .bool (fourK k)]
end Go.Proofs.Ytgcakhmdmajplaa

namespace Go.Proofs.Ytgcakhmdmajplaa
open Go.RowKit

def set6 (w : World) (b : Nat) (c0 c1 c2 c3 c4 c5 : Value) : World := (((((w.setCell ⟨b, 0, none⟩ c0).setCell ⟨b, 1, none⟩ c1).setCell ⟨b, 2, none⟩ c2).setCell ⟨b, 3, none⟩ c3).setCell ⟨b, 4, none⟩ c4).setCell ⟨b, 5, none⟩ c5
theorem below_set {B : Nat} {w w' : World} (h : Below B w w') (b j : Nat) (v : Value) (hB : B ≤ b) : Below B w (w'.setCell ⟨b, j, none⟩ v) := by
  refine ⟨h.os, h.tape, h.output, by simpa [World.setCell] using h.size, fun k hk => ?_⟩
  have : (w'.setCell ⟨b, j, none⟩ v).heap[k]? = w'.heap[k]? := by
    simp only [World.setCell, Array.getElem?_modify]
    rw [if_neg (by omega)]
  rw [this, h.block k hk]
theorem below_set6 {B : Nat} {w w' : World} (h : Below B w w') (b : Nat) (c0 c1 c2 c3 c4 c5 : Value) (hB : B ≤ b) : Below B w (set6 w' b c0 c1 c2 c3 c4 c5) :=
  below_set (below_set (below_set (below_set (below_set (below_set h b 0 c0 hB) b 1 c1 hB) b 2 c2 hB) b 3 c3 hB) b 4 c4 hB) b 5 c5 hB

end Go.Proofs.Ytgcakhmdmajplaa

namespace Go.Proofs.Ytgcakhmdmajplaa

/-- The magnitude of a rung, counted in 2^-1074. -/
def mgn (r : Nat) : Nat := if r < 4503599627370496 then r else (4503599627370496 + r % 4503599627370496) * 2 ^ (r / 4503599627370496 - 1)

theorem mgn_lt {r s : Nat} (h : r < s) : mgn r < mgn s := by
  unfold mgn
  by_cases h1 : s < 4503599627370496
  · rw [if_pos h1, if_pos (by omega)]; exact h
  · rw [if_neg h1]
    have hs : 1 ≤ s / 4503599627370496 := by omega
    have hp : ∀ k, 0 < 2 ^ k := fun k => Nat.two_pow_pos k
    by_cases h2 : r < 4503599627370496
    · rw [if_pos h2]
      have := Nat.mul_le_mul_left (4503599627370496 + s % 4503599627370496) (hp (s / 4503599627370496 - 1))
      omega
    · rw [if_neg h2]
      by_cases h3 : r / 4503599627370496 = s / 4503599627370496
      · rw [h3]
        exact Nat.mul_lt_mul_of_pos_right (by omega) (hp _)
      · have h4 : r / 4503599627370496 < s / 4503599627370496 := by omega
        have h5 : 1 ≤ r / 4503599627370496 := by omega
        generalize r / 4503599627370496 = q at *
        generalize s / 4503599627370496 = p at *
        have h6 : (4503599627370496 + r % 4503599627370496) * 2 ^ (q - 1) < 9007199254740992 * 2 ^ (q - 1) := Nat.mul_lt_mul_of_pos_right (by omega) (hp _)
        have h7 : 9007199254740992 * 2 ^ (q - 1) = 4503599627370496 * 2 ^ q := by
          have e : q = (q - 1) + 1 := by omega
          rw [e, Nat.pow_succ, Nat.add_sub_cancel]
          omega
        have h8 : 4503599627370496 * 2 ^ q ≤ 4503599627370496 * 2 ^ (p - 1) := Nat.mul_le_mul_left _ (Nat.pow_le_pow_right (by omega) (by omega))
        have h9 : 4503599627370496 * 2 ^ (p - 1) ≤ (4503599627370496 + s % 4503599627370496) * 2 ^ (p - 1) := Nat.mul_le_mul_right _ (by omega)
        omega

theorem mgn_zero : mgn 0 = 0 := rfl
theorem mgn_le {r s : Nat} (h : r ≤ s) : mgn r ≤ mgn s := by
  rcases Nat.lt_or_ge r s with h | h'
  · exact Nat.le_of_lt (mgn_lt h)
  · rw [show r = s from by omega]; exact Nat.le_refl _
theorem mgn_lt_iff {r s : Nat} : mgn r < mgn s ↔ r < s :=
  ⟨fun h => Nat.lt_of_not_le fun h' => absurd (mgn_le h') (by omega), mgn_lt⟩
theorem mgn_le_iff {r s : Nat} : mgn r ≤ mgn s ↔ r ≤ s :=
  ⟨fun h => Nat.le_of_not_lt fun h' => absurd (mgn_lt h') (by omega), mgn_le⟩

/-- A word's key. -/
def key (b : Nat) : Int := if b < 9223372036854775808 then (b : Int) else 9223372036854775808 - (b : Int)

/-- A finite word, read: a magnitude of so many 2^-1074. -/
theorem read_fin {b : Nat} (hw : IsW b) (hf : b % 9223372036854775808 < 9218868437227405312) :
    ∃ m p, Ieee.double.read b = .number (decide (9223372036854775808 ≤ b)) m p ∧ -1074 ≤ p ∧ m * 2 ^ (p + 1074).toNat = mgn (b % 9223372036854775808) := by
  have h1 : Ieee.double.signWeight = 9223372036854775808 := by decide +kernel
  have h2 : Ieee.double.binade = 4503599627370496 := by decide +kernel
  have h3 : Ieee.double.infRung = 9218868437227405312 := by decide +kernel
  have h4 : Ieee.double.leastPlace = -1074 := by decide +kernel
  unfold IsW at hw
  have hs : (b / 9223372036854775808 % 2 == 1) = decide (9223372036854775808 ≤ b) := by
    rw [Bool.eq_iff_iff]; simp; omega
  unfold Ieee.Format.read
  simp only [h1, h2, h3, h4, hs]
  split
  · rename_i h
    exact ⟨_, _, rfl, by omega, by simp [mgn, h]⟩
  · rename_i h
    refine ⟨_, _, rfl, by omega, ?_⟩
    rw [mgn, if_neg h]
    congr 2
    omega

theorem read_inf {b : Nat} (hw : IsW b) (hf : b % 9223372036854775808 = 9218868437227405312) :
    Ieee.double.read b = .infinity (decide (9223372036854775808 ≤ b)) := by
  have h1 : Ieee.double.signWeight = 9223372036854775808 := by decide +kernel
  have h2 : Ieee.double.binade = 4503599627370496 := by decide +kernel
  have h3 : Ieee.double.infRung = 9218868437227405312 := by decide +kernel
  unfold IsW at hw
  have hs : (b / 9223372036854775808 % 2 == 1) = decide (9223372036854775808 ≤ b) := by
    rw [Bool.eq_iff_iff]; simp; omega
  unfold Ieee.Format.read
  simp only [h1, h2, h3, hs]
  rw [if_neg (by omega), if_neg (by omega), if_pos hf]

theorem signed_scale (s : Bool) (m : Nat) (i j k : Nat) (h : i + j = k) : Ieee.signed s m i * (2 ^ j : Nat) = if s then -((m * 2 ^ k : Nat) : Int) else ((m * 2 ^ k : Nat) : Int) := by
  subst h
  unfold Ieee.signed
  cases s
  · simp only [Bool.false_eq_true, if_false]
    rw [Nat.shiftLeft_eq, ← Int.natCast_mul, Nat.mul_assoc, ← Nat.pow_add]
  · simp only [if_true]
    rw [Int.neg_mul, Nat.shiftLeft_eq, ← Int.natCast_mul, Nat.mul_assoc, ← Nat.pow_add]

theorem compare_scale (x y : Int) (j : Nat) : compare x y = compare (x * (2 ^ j : Nat)) (y * (2 ^ j : Nat)) := by
  have hp : (0 : Int) < ((2 ^ j : Nat) : Int) := by exact_mod_cast Nat.two_pow_pos j
  simp only [compare, compareOfLessAndEq]
  rcases Int.lt_trichotomy x y with h | h | h
  · rw [if_pos h, if_pos (Int.mul_lt_mul_of_pos_right h hp)]
  · subst h; simp
  · have h' := Int.mul_lt_mul_of_pos_right h hp
    rw [if_neg (by omega), if_neg (by omega), if_neg (by omega), if_neg (by omega)]

/-- A finite word's value, counted in 2^-1074. -/
def sv (b : Nat) : Int := if 9223372036854775808 ≤ b then -(mgn (b % 9223372036854775808) : Int) else (mgn (b % 9223372036854775808) : Int)

theorem order_fin {a b : Nat} (ha : IsW a) (hb : IsW b) (hfa : a % 9223372036854775808 < 9218868437227405312) (hfb : b % 9223372036854775808 < 9218868437227405312) :
    Ieee.double.order a b = some (compare (sv a) (sv b)) := by
  obtain ⟨m, i, hm, hi, hmg⟩ := read_fin ha hfa
  obtain ⟨n, j, hn, hj, hng⟩ := read_fin hb hfb
  unfold Ieee.Format.order
  rw [hm, hn]
  simp only [Ieee.Datum.order]
  congr 1
  rw [compare_scale _ _ ((min i j) + 1074).toNat, signed_scale _ _ _ _ (i + 1074).toNat (by omega), signed_scale _ _ _ _ (j + 1074).toNat (by omega), hmg, hng]
  simp only [sv, decide_eq_true_eq]

theorem sv_lt {a b : Nat} (ha : IsW a) (hb : IsW b) : sv a < sv b ↔ key a < key b := by
  unfold IsW at *
  unfold sv key
  by_cases h1 : a < 9223372036854775808 <;> by_cases h2 : b < 9223372036854775808
  · rw [if_neg (by omega), if_neg (by omega), if_pos h1, if_pos h2, Nat.mod_eq_of_lt h1, Nat.mod_eq_of_lt h2]
    have := @mgn_lt_iff a b
    omega
  · rw [if_neg (by omega), if_pos (by omega), if_pos h1, if_neg h2]
    omega
  · rw [if_pos (by omega), if_neg (by omega), if_neg h1, if_pos h2, Nat.mod_eq_of_lt h2]
    have e1 := @mgn_lt_iff 0 (a % 9223372036854775808)
    have e2 := @mgn_lt_iff 0 b
    rw [mgn_zero] at e1 e2
    omega
  · rw [if_pos (by omega), if_pos (by omega), if_neg h1, if_neg h2]
    have := @mgn_lt_iff (b % 9223372036854775808) (a % 9223372036854775808)
    omega

theorem compare_of_lt {x y u v : Int} (h1 : x < y ↔ u < v) (h2 : y < x ↔ v < u) : compare x y = compare u v := by
  simp only [compare, compareOfLessAndEq]
  by_cases hx : x < y
  · rw [if_pos hx, if_pos (h1.1 hx)]
  · rw [if_neg hx, if_neg (fun h => hx (h1.2 h))]
    by_cases hy : y < x
    · have := h2.1 hy
      rw [if_neg (by omega), if_neg (by omega)]
    · have : ¬ v < u := fun h => hy (h2.2 h)
      have : ¬ u < v := fun h => hx (h1.2 h)
      rw [if_pos (by omega), if_pos (by omega)]

theorem nan_iff (b : Nat) : nanB b = false ↔ b % 9223372036854775808 ≤ 9218868437227405312 := by unfold nanB; simp

theorem order_key {a b : Nat} (ha : IsW a) (hb : IsW b) (hna : nanB a = false) (hnb : nanB b = false) :
    Ieee.double.order a b = some (compare (key a) (key b)) := by
  rw [nan_iff] at hna hnb
  have ha' := ha
  have hb' := hb
  unfold IsW at ha' hb'
  by_cases hfa : a % 9223372036854775808 < 9218868437227405312
  · by_cases hfb : b % 9223372036854775808 < 9218868437227405312
    · rw [order_fin ha hb hfa hfb]
      congr 1
      exact compare_of_lt (sv_lt ha hb) (sv_lt hb ha)
    · obtain ⟨m, i, hm, hi, hmg⟩ := read_fin ha hfa
      have hn := read_inf hb (by omega)
      unfold Ieee.Format.order
      rw [hm, hn]
      simp only [Ieee.Datum.order, decide_eq_true_eq]
      congr 1
      unfold key
      simp only [compare, compareOfLessAndEq]
      repeat' split
      all_goals first | rfl | omega
  · have hn := read_inf ha (by omega)
    by_cases hfb : b % 9223372036854775808 < 9218868437227405312
    · obtain ⟨m, i, hm, hi, hmg⟩ := read_fin hb hfb
      unfold Ieee.Format.order
      rw [hm, hn]
      simp only [Ieee.Datum.order, decide_eq_true_eq]
      congr 1
      unfold key
      simp only [compare, compareOfLessAndEq]
      repeat' split
      all_goals first | rfl | omega
    · have hm := read_inf hb (by omega)
      unfold Ieee.Format.order
      rw [hm, hn]
      simp only [Ieee.Datum.order]
      congr 1
      unfold key
      by_cases h1 : a < 9223372036854775808 <;> by_cases h2 : b < 9223372036854775808 <;> simp [h1, h2, compare, compareOfLessAndEq, Nat.not_le.2, Nat.not_lt.1] <;> (repeat' split) <;> first | rfl | omega

theorem flt_key {a b : Nat} (ha : IsW a) (hb : IsW b) (hna : nanB a = false) (hnb : nanB b = false) : flt (some a) (some b) = decide (key a < key b) := by
  simp only [flt, ford, Option.bind_some, order_key ha hb hna hnb, compare, compareOfLessAndEq]
  by_cases h1 : key a < key b
  · simp [h1]
  · by_cases h2 : key a = key b
    · simp [h2]
    · simp [h1, h2]
theorem fle_key {a b : Nat} (ha : IsW a) (hb : IsW b) (hna : nanB a = false) (hnb : nanB b = false) : fle (some a) (some b) = decide (key a ≤ key b) := by
  simp only [fle, ford, Option.bind_some, order_key ha hb hna hnb, compare, compareOfLessAndEq]
  by_cases h1 : key a < key b
  · simp [h1]; omega
  · by_cases h2 : key a = key b
    · simp [h2]
    · simp [h1, h2]; omega
theorem feq_key {a b : Nat} (ha : IsW a) (hb : IsW b) (hna : nanB a = false) (hnb : nanB b = false) : feq (some a) (some b) = decide (key a = key b) := by
  simp only [feq, ford, Option.bind_some, order_key ha hb hna hnb, compare, compareOfLessAndEq]
  by_cases h1 : key a < key b
  · simp [h1]; omega
  · by_cases h2 : key a = key b
    · simp [h2]
    · simp [h1, h2]
end Go.Proofs.Ytgcakhmdmajplaa

namespace Go.Proofs.Ytgcakhmdmajplaa
open Go.RowKit

theorem kind_above {v : Nat} (hv : IsW v) (h : kindF v ≤ 2) : fle (val v) (val 0) = !flt (val 0) (val v) := by
  have hn : nanB v = false := by
    rw [nan_iff]
    unfold kindF at h
    unfold IsW at hv
    split at h
    · omega
    · split at h
      · omega
      · split at h <;> omega
  rw [val_some hn, show val 0 = some 0 by decide +kernel, fle_key hv isW_0 hn (by decide), flt_key isW_0 hv (by decide) hn]
  by_cases hk : key v ≤ key 0
  · rw [decide_eq_true hk, decide_eq_false (by omega)]
    rfl
  · rw [decide_eq_false hk, decide_eq_true (by omega)]
    rfl
end Go.Proofs.Ytgcakhmdmajplaa

namespace Go.Proofs.Ytgcakhmdmajplaa
open Go.RowKit

/-- A slice of elements; nil has no room. -/
def ElsN (w : World) (v : Value) (L : List El) : Prop := ElsAt w v L ∧ ∀ n cap, v = .slice none n cap → cap = 0
theorem ElsN.below {w w' : World} {v : Value} {L : List El} (h : ElsN w v L) (hb : Below w.heap.size w w') : ElsN w' v L := ⟨h.1.below hb, h.2⟩
theorem ElsN.of_owns {w : World} {B : Nat} {v : Value} {L : List El} (h : w.ownsRow B 54 8 v L.length (cellsL L)) : ElsN w v L := by
  refine ⟨ElsAt.of_owns h, fun n cap e => ?_⟩
  rcases h.2 with ⟨rfl, _⟩ | ⟨g, c, cur, rfl, _⟩
  · cases e; rfl
  · cases e
theorem cellsL_at : ∀ (L : List El) (j : Nat) (u : Value), (cellsL L)[j]? = some u → ∃ e, L[j / 8]? = some e ∧ (elC e)[j % 8]? = some u
  | [], j, u, h => by simp [cellsL] at h
  | e :: r, j, u, h => by
    have hc : cellsL (e :: r) = elC e ++ cellsL r := rfl
    rw [hc] at h
    have hl : (elC e).length = 8 := rfl
    by_cases hj : j < 8
    · rw [List.getElem?_append_left (by omega)] at h
      refine ⟨e, ?_, ?_⟩
      · rw [Nat.div_eq_of_lt hj]; rfl
      · rw [Nat.mod_eq_of_lt hj]; exact h
    · rw [List.getElem?_append_right (by omega), hl] at h
      obtain ⟨e', h1, h2⟩ := cellsL_at r (j - 8) u h
      refine ⟨e', ?_, ?_⟩
      · rw [show j / 8 = (j - 8) / 8 + 1 by omega]
        exact h1
      · rw [show j % 8 = (j - 8) % 8 by omega]
        exact h2
theorem cellsL_one (L : List El) : ∀ u ∈ cellsL L, u.oneCell' = true := by
  intro u hu
  unfold cellsL at hu
  obtain ⟨e, _, he⟩ := List.mem_flatMap.1 hu
  simp only [elC, List.mem_cons, List.not_mem_nil, or_false] at he
  rcases he with rfl | rfl | rfl | rfl | rfl | rfl | rfl | rfl <;> rfl

/-- 'out = append(out, l...)', l a slice of elements. -/
theorem wpList_appE {ops : Array Oper} {rest : List Oper} {o : Oper} {a : Act} {Q : Exit → Act → World → Prop} {w : World} (hgd : o.guard = none) (s x : Operand) (t : TypeId)
    (ho : o.op = .call { callee := .builtin .append, args := #[s, x], argTypes := #[t, t] }) (ht : Try.prog.underlying t = some (.slice 54))
    (base : Nat) (v : Value) (n : Nat) (xs : List Value) (vx : Value) (L : List El) (hs : a.eval s = v) (hx : a.eval x = vx) (hE : ElsN w vx L)
    (hown : w.ownsRow base 54 8 v n xs) (hbytes : (n + L.length) * 104 ≤ 140737488355328) (hbase : base ≤ w.heap.size)
    (h : ∀ v' w', w'.ownsRow base 54 8 v' (n + L.length) (xs ++ cellsL L) → Below base w w' → w.heap.size ≤ w'.heap.size → wpList Try.prog ops Q rest (a.put o.dst v') w') : wpList Try.prog ops Q (o :: rest) a w := by
  obtain ⟨i, hi, hz0, hz1, hz2⟩ := info_parts info_el
  obtain ⟨⟨ad, cap, rfl, hr⟩, hc⟩ := hE
  cases ad with
  | none =>
    have hy : L = [] := by
      cases L with
      | nil => rfl
      | cons e r => obtain ⟨b, off, e1, _⟩ := hr 0 e rfl; cases e1
    subst hy
    obtain rfl := hc _ _ rfl
    refine wpList_plain hgd fun K hK => ?_
    have hrun := run_append_owned_none (P := Try.prog) w base t o.type 54 i 8 ht hi v n xs hown
    unfold Oper.wp execOp
    simp only [ho, resolve, invoke, builtin, Sem.run_bind, Sem.run_pure, Result.andThen_ok, List.map_toArray, List.map_cons, List.map_nil, hs, hx]
    simp only [List.length_nil, hrun, Result.andThen_ok, Oper.upon_value]
    refine hK _ _ (h v w ?_ (Below.refl _ _) (Nat.le_refl _))
    simpa [cellsL] using hown
  | some ad =>
    refine wpList_append_own _ hgd s x t ho base 54 i _ 8 104 ht hi hz0 hz1 hz2 (by simp [Value.cells]) (by decide) v n xs hs hown ad L.length cap (cellsL L) hx (cellsL_len L) ?_ (cellsL_one L) (by unfold maxLen; omega) hbytes hbase ?_
    · intro j u hu
      obtain ⟨e, h1, h2⟩ := cellsL_at L j u hu
      obtain ⟨b, off, e1, hcell⟩ := hr _ e h1
      cases e1
      have h3 := hcell _ u h2
      rw [show off + j / 8 * 8 + j % 8 = off + j by omega] at h3
      unfold Addr.add
      split
      · subst j; exact h3
      · exact h3
    · intro v' w' h1 h2 _
      have hbl : Below base w w' := (Below.refl base w).grown h2 hbase (fun k hk => (hown.lt k hk).1)
      exact h v' w' h1 hbl hbl.size

def RetQ (w : World) (L : List El) (E : Ending) (w' : World) : Prop := ∃ v, E = .returned v ∧ w'.ownsRow w.heap.size 54 8 v L.length (cellsL L) ∧ Below w.heap.size w w'
/-- The names of the branches. -/
def brF (L : List El) : List ByteArray := (L.filter fun e => brK e.kind).map (·.name)
theorem brF_snoc (L : List El) (e : El) : brF (L ++ [e]) = if brK e.kind = true then brF L ++ [e.name] else brF L := by
  unfold brF
  rw [List.filter_append]
  split
  · rename_i h; simp [h]
  · rename_i h; simp [h]
theorem brF_len (L : List El) : (brF L).length ≤ L.length := by
  unfold brF
  rw [List.length_map]
  exact List.length_filter_le _ _
def RetS (w : World) (ns : List ByteArray) (E : Ending) (w' : World) : Prop := ∃ v, E = .returned v ∧ w'.ownsRow w.heap.size 9 1 v ns.length (strL ns) ∧ Below w.heap.size w w'
theorem ownsRow_le {w : World} {base base' size n : Nat} {e : TypeId} {v : Value} {xs : List Value} (h : w.ownsRow base e size v n xs) (hb : base' ≤ base) : w.ownsRow base' e size v n xs :=
  ⟨h.1, h.2.elim Or.inl (fun ⟨g, cap, cur, hv, hg, r⟩ => Or.inr ⟨g, cap, cur, hv, Nat.le_trans hb hg, r⟩)⟩
def BrLoop (W : World) (L : List El) (i out : Value) (w : World) : Prop := ∃ k : Nat, i = .int .i64 k ∧ k ≤ L.length ∧ w.ownsRow W.heap.size 9 1 out (brF (L.take k)).length (strL (brF (L.take k))) ∧ Below W.heap.size W w
theorem el_snoc {L : List El} {k : Nat} {e : El} (h : L[k]? = some e) : L.take (k + 1) = L.take k ++ [e] := by
  rw [List.take_add_one, h]
  rfl
end Go.Proofs.Ytgcakhmdmajplaa

namespace Go.Proofs.Ytgcakhmdmajplaa
open Go.RowKit

def nodesF (L : List El) : List ByteArray := L.foldl (fun ns e => (fourE e).foldl putNode ns) []
theorem nodesF_snoc (L : List El) (e : El) : nodesF (L ++ [e]) = (fourE e).foldl putNode (nodesF L) := by simp [nodesF]
theorem fold_le : ∀ (xs ns : List ByteArray), (xs.foldl putNode ns).length ≤ ns.length + xs.length
  | [], ns => by simp
  | x :: xs, ns => by
    rw [List.foldl_cons]
    have := fold_le xs (putNode ns x)
    have := putNode_len ns x
    simp only [List.length_cons]
    omega
theorem nodesF_len (L : List El) : (nodesF L).length ≤ 4 * L.length := by
  have : ∀ (L : List El) (ns : List ByteArray), (L.foldl (fun ns e => (fourE e).foldl putNode ns) ns).length ≤ ns.length + 4 * L.length := by
    intro L
    induction L with
    | nil => intro ns; simp
    | cons e r ih =>
      intro ns
      rw [List.foldl_cons]
      have h1 := ih ((fourE e).foldl putNode ns)
      have h2 := fold_le (fourE e) ns
      have h3 : (fourE e).length = 4 := rfl
      simp only [List.length_cons]
      omega
  have := this L []
  simp at this
  unfold nodesF
  omega
/-- The told nodes; a row of four beside them. -/
structure NdS (B : Nat) (w : World) (out : Value) (ns : List ByteArray) : Prop where
  own : w.ownsRow B 9 1 out ns.length (strL ns)
theorem strs_cell {w : World} {B g cap : Nat} {ns : List ByteArray} (h : w.ownsRow B 9 1 (.slice (some ⟨g, 0, none⟩) ns.length cap) ns.length (strL ns)) {j : Nat} {x : ByteArray} (hx : ns[j]? = some x) : w.cell? ⟨g, j, none⟩ = some (.string x) := by
  have hj := (List.getElem?_eq_some_iff.1 hx).1
  rw [World.ownsRow.cellAt h j (by omega)]
  unfold strL
  rw [List.getElem?_map, hx]
  rfl
def OuL (W : World) (L : List El) (i out : Value) (w : World) : Prop := ∃ k : Nat, i = .int .i64 k ∧ k ≤ L.length ∧ w.ownsRow W.heap.size 9 1 out (nodesF (L.take k)).length (strL (nodesF (L.take k))) ∧ Below W.heap.size W w
def MiL (W : World) (e : El) (cb : Nat) (ns : List ByteArray) (k out : Value) (w : World) : Prop := ∃ j : Nat, k = .int .i64 j ∧ j ≤ 4 ∧ w.ownsRow W.heap.size 9 1 out (((fourE e).take j).foldl putNode ns).length (strL (((fourE e).take j).foldl putNode ns)) ∧ FourAt w cb e ∧ out.ownBlock ≠ some cb ∧ Below W.heap.size W w
def InL (w : World) (t0 : Bool) (ns : List ByteArray) (x : ByteArray) (j fl : Value) (w' : World) : Prop := ∃ k : Nat, j = .int .i64 k ∧ k ≤ ns.length ∧ fl = .bool (t0 || hasS (ns.take k) x) ∧ Dr w w'
end Go.Proofs.Ytgcakhmdmajplaa

namespace Go.Proofs.Ytgcakhmdmajplaa
open Go.RowKit

theorem bl_a (w : World) (o : Obj) : Below w.heap.size w (w.alloc o) := (Below.refl _ w).alloc (Nat.le_refl _) o
structure OfI2 (L : List El) (k : Nat) (s : NetS) : Prop where
  inv : OfInv L k s
  nodes : s.nodes = nodesF (L.take k)
  br : s.br = brF (L.take k)
theorem OfI2.start (L : List El) : OfI2 L 0 net0 := ⟨OfInv.start L, rfl, rfl⟩
theorem OfI2.step {L : List El} {k : Nat} {s : NetS} {e : El} (h : OfI2 L k s) (he : L[k]? = some e) (hc : checkE e = 0) (hn : hasS (nmL s.l) e.name = false) : OfI2 L (k + 1) (putN s e) := by
  refine ⟨h.inv.step he hc hn, ?_, ?_⟩
  · rw [el_snoc he, nodesF_snoc, ← h.nodes]
    rfl
  · rw [el_snoc he, brF_snoc, ← h.br]
    rfl
def RoL (W : World) (L : List El) (i : Value) (w : World) : Prop := ∃ (k : Nat) (s : NetS), i = .int .i64 k ∧ k ≤ L.length ∧ OfI2 L k s ∧ FltAt w W.heap.size 0 0 ∧ Below W.heap.size W w
def RiL (w0 : World) (L : List El) (k : Nat) (x : ByteArray) (j : Value) (w : World) : Prop := ∃ q : Nat, j = .int .i64 q ∧ q ≤ k ∧ hasS (nmL (L.take q)) x = false ∧ Dr w0 w
theorem nm_step {L : List El} {q : Nat} {y : El} (h : L[q]? = some y) (x : ByteArray) : hasS (nmL (L.take (q + 1))) x = (hasS (nmL (L.take q)) x || (y.name.toList == x.toList)) := by
  rw [el_snoc h, ByteArray.toList_eq, ByteArray.toList_eq, show nmL (L.take q ++ [y]) = nmL (L.take q) ++ [y.name] by simp [nmL], hasS_snoc]
theorem nm_more {L : List El} {x : ByteArray} {q k : Nat} (hqk : q ≤ k) (h : hasS (nmL (L.take q)) x = true) : hasS (nmL (L.take k)) x = true := by
  rw [hasS_iff] at *
  unfold nmL at *
  obtain ⟨e, he, rfl⟩ := List.mem_map.1 h
  refine List.mem_map.2 ⟨e, ?_, rfl⟩
  rw [show q = min q k by omega, ← List.take_take] at he
  exact List.mem_of_mem_take he
end Go.Proofs.Ytgcakhmdmajplaa
