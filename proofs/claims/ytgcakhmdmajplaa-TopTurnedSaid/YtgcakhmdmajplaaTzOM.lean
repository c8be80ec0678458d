/- Reals turned about, and noughts, plainly: every operation on opposites gives the opposite, but for a nought's sign. No condition. Solving with a right side turned about gives the unknowns turned about; with noughts, noughts. Plain; no condition. -/
import Derived.Test.YtgcakhmdmajplaaFlM
import Derived.Test.YtgcakhmdmajplaaTvBM
namespace Go.Proofs.Ytgcakhmdmajplaa

/-- One is the other turned about; a nought's sign counts for nothing. -/
def DOp : Ieee.Datum → Ieee.Datum → Prop
  | .number s m e, .number t n f => m = n ∧ e = f ∧ (m = 0 ∨ t = !s)
  | .infinity s, .infinity t => t = !s
  | _, _ => False
def ODOp : Option Ieee.Datum → Option Ieee.Datum → Prop
  | none, none => True
  | some x, some y => DOp x y
  | _, _ => False
theorem signed_op {s t : Bool} {m k : Nat} (h : m = 0 ∨ t = !s) : Ieee.signed t m k = -Ieee.signed s m k := by
  unfold Ieee.signed
  rcases h with rfl | rfl
  · cases s <;> cases t <;> simp
  · cases s <;> simp
theorem DOp.sum {x x' y y' : Ieee.Datum} (h : DOp x x') (k : DOp y y') : ODOp (x.sum y) (x'.sum y') := by
  cases x with
  | nan => cases x' <;> exact h.elim
  | infinity s =>
    cases x' with
    | nan => exact h.elim
    | number => exact h.elim
    | infinity s' =>
      obtain rfl : s' = !s := h
      cases y with
      | nan => cases y' <;> exact k.elim
      | infinity t =>
        cases y' with
        | nan => exact k.elim
        | number => exact k.elim
        | infinity t' =>
          obtain rfl : t' = !t := k
          cases s <;> cases t <;> simp [Ieee.Datum.sum, ODOp, DOp]
      | number t n j =>
        cases y' with
        | nan => exact k.elim
        | infinity => exact k.elim
        | number t' n' j' => exact (rfl : (!s) = !s)
  | number s m i =>
    cases x' with
    | nan => exact h.elim
    | infinity => exact h.elim
    | number s' m' i' =>
      obtain ⟨rfl, rfl, hs⟩ := h
      cases y with
      | nan => cases y' <;> exact k.elim
      | infinity t =>
        cases y' with
        | nan => exact k.elim
        | number => exact k.elim
        | infinity t' => exact (k : t' = !t)
      | number t n j =>
        cases y' with
        | nan => exact k.elim
        | infinity => exact k.elim
        | number t' n' j' =>
          obtain ⟨rfl, rfl, ht⟩ := k
          simp only [Ieee.Datum.sum, ODOp, DOp]
          rw [signed_op hs, signed_op ht]
          generalize Ieee.signed s m (i - min i j).toNat = a
          generalize Ieee.signed t n (j - min i j).toNat = b
          refine ⟨by omega, trivial, ?_⟩
          by_cases h0 : a + b = 0
          · exact .inl (by omega)
          · right
            rw [if_neg h0, if_neg (by omega)]
            by_cases h1 : a + b < 0
            · rw [decide_eq_true h1, decide_eq_false (by omega)]; rfl
            · rw [decide_eq_false h1, decide_eq_true (by omega)]; rfl
theorem xor_op {s s' t : Bool} {m n : Nat} (h : m = 0 ∨ s' = !s) : m * n = 0 ∨ (s' ^^ t) = !(s ^^ t) := by
  rcases h with rfl | rfl
  · exact .inl (Nat.zero_mul _)
  · right; cases s <;> cases t <;> rfl
theorem DOp.product {x x' : Ieee.Datum} (h : DOp x x') (y : Ieee.Datum) : ODOp (x.product y) (x'.product y) := by
  cases x with
  | nan => cases x' <;> exact h.elim
  | infinity s =>
    cases x' with
    | nan => exact h.elim
    | number => exact h.elim
    | infinity s' =>
      obtain rfl : s' = !s := h
      cases y with
      | nan => exact trivial
      | infinity t => cases s <;> cases t <;> exact (rfl : _ = _)
      | number t n j =>
        simp only [Ieee.Datum.product]
        by_cases h0 : n = 0
        · rw [if_pos h0, if_pos h0]; exact trivial
        · rw [if_neg h0, if_neg h0]; cases s <;> cases t <;> exact (rfl : _ = _)
  | number s m i =>
    cases x' with
    | nan => exact h.elim
    | infinity => exact h.elim
    | number s' m' i' =>
      obtain ⟨rfl, rfl, hs⟩ := h
      cases y with
      | nan => exact trivial
      | infinity t =>
        simp only [Ieee.Datum.product]
        by_cases h0 : m = 0
        · rw [if_pos h0, if_pos h0]; exact trivial
        · rw [if_neg h0, if_neg h0]
          obtain rfl : s' = !s := hs.resolve_left h0
          cases s <;> cases t <;> exact (rfl : _ = _)
      | number t n j => exact ⟨rfl, rfl, xor_op hs⟩
theorem product_comm (x y : Ieee.Datum) : x.product y = y.product x := by
  cases x <;> cases y <;> simp only [Ieee.Datum.product]
  · rename_i s m i t n j
    rw [Nat.mul_comm m n, Int.add_comm i j, Bool.xor_comm s t]
  · rename_i s t
    rw [Bool.xor_comm s t]
theorem DOp.quotient {d : Nat} {x x' : Ieee.Datum} (h : DOp x x') (y : Ieee.Datum) : ODOp (x.quotient d y) (x'.quotient d y) := by
  cases x with
  | nan => cases x' <;> exact h.elim
  | infinity s =>
    cases x' with
    | nan => exact h.elim
    | number => exact h.elim
    | infinity s' =>
      obtain rfl : s' = !s := h
      cases y with
      | nan => exact trivial
      | infinity t => exact trivial
      | number t n j => cases s <;> cases t <;> exact (rfl : _ = _)
  | number s m i =>
    cases x' with
    | nan => exact h.elim
    | infinity => exact h.elim
    | number s' m' i' =>
      obtain ⟨rfl, rfl, hs⟩ := h
      cases y with
      | nan => exact trivial
      | infinity t => exact ⟨rfl, rfl, .inl rfl⟩
      | number t n j =>
        simp only [Ieee.Datum.quotient]
        by_cases h0 : n = 0
        · rw [if_pos h0, if_pos h0]
          by_cases h1 : m = 0
          · rw [if_pos h1, if_pos h1]; exact trivial
          · rw [if_neg h1, if_neg h1]
            obtain rfl : s' = !s := hs.resolve_left h1
            cases s <;> cases t <;> exact (rfl : _ = _)
        · rw [if_neg h0, if_neg h0]
          refine ⟨rfl, rfl, ?_⟩
          rcases hs with rfl | rfl
          · left; simp
          · right; cases s <;> cases t <;> rfl
theorem DOp.opposite {x x' : Ieee.Datum} (h : DOp x x') : DOp x.opposite x'.opposite := by
  cases x <;> cases x' <;> first | exact h.elim | skip
  · obtain ⟨h1, h2, h3⟩ := h
    refine ⟨h1, h2, h3.imp_right fun h => ?_⟩
    rw [h]
  · exact congrArg Bool.not (show _ = _ from h)
theorem read_word (s : Bool) (r : Nat) (hr : r ≤ 9218868437227405312) : Ieee.double.read (Ieee.double.word s r) = if r < 4503599627370496 then .number s r Ieee.double.leastPlace else if r < 9218868437227405312 then .number s (4503599627370496 + r % 4503599627370496) (Ieee.double.leastPlace + (r / 4503599627370496 - 1 : Nat)) else .infinity s := by
  have h1 : Ieee.double.signWeight = 9223372036854775808 := by decide +kernel
  have h2 : Ieee.double.binade = 4503599627370496 := by decide +kernel
  have h3 : Ieee.double.infRung = 9218868437227405312 := by decide +kernel
  have e1 : Ieee.double.word s r % 9223372036854775808 = r := by
    unfold Ieee.Format.word
    rw [h1]
    cases s <;> simp <;> omega
  have e2 : (Ieee.double.word s r / 9223372036854775808 % 2 == 1) = s := by
    unfold Ieee.Format.word
    rw [h1]
    cases s
    · simp; omega
    · simp; omega
  unfold Ieee.Format.read
  simp only [h1, h2, h3, e1, e2]
  split
  · rfl
  · split
    · rfl
    · rw [if_pos (by omega)]
/-- The rung of a magnitude. -/
def rungOf (m : Nat) (e : Int) : Nat := if m = 0 then 0 else min (((max (e + m.log2 - 52) (-1074)) - (-1074)).toNat * 4503599627370496 + Ieee.Toward.even.cut false (m <<< (e - max (e + m.log2 - 52) (-1074)).toNat) (max (e + m.log2 - 52) (-1074) - e).toNat) 9218868437227405312
theorem rungOf_le (m : Nat) (e : Int) : rungOf m e ≤ 9218868437227405312 := by
  unfold rungOf
  split
  · omega
  · exact Nat.min_le_right _ _
theorem nearest_rung (s : Bool) (m : Nat) (e : Int) : Ieee.double.nearest s m e = Ieee.double.word s (rungOf m e) := by
  have h2 : Ieee.double.binade = 4503599627370496 := by decide +kernel
  have h3 : Ieee.double.infRung = 9218868437227405312 := by decide +kernel
  have h4 : Ieee.double.leastPlace = -1074 := by decide +kernel
  have h5 : Ieee.double.fractionBits = 52 := rfl
  unfold Ieee.Format.nearest rungOf
  split
  · rfl
  · simp only [h2, h3, h4, h5]
    rfl
theorem word_op {s t : Bool} {r : Nat} (hr : r ≤ 9218868437227405312) (h : r = 0 ∨ t = !s) : DOp (Ieee.double.read (Ieee.double.word s r)) (Ieee.double.read (Ieee.double.word t r)) := by
  rw [read_word s r hr, read_word t r hr]
  split
  · exact ⟨rfl, rfl, h⟩
  · split
    · exact ⟨rfl, rfl, .inr (h.resolve_left (by omega))⟩
    · exact h.resolve_left (by omega)
theorem write_op {x y : Ieee.Datum} (h : DOp x y) : DOp (Ieee.double.read (Ieee.double.write x)) (Ieee.double.read (Ieee.double.write y)) := by
  cases x with
  | nan => cases y <;> exact h.elim
  | infinity s =>
    cases y with
    | nan => exact h.elim
    | number => exact h.elim
    | infinity t =>
      obtain rfl : t = !s := h
      exact word_op (by decide +kernel) (.inr rfl)
  | number s m i =>
    cases y with
    | nan => exact h.elim
    | infinity => exact h.elim
    | number t n j =>
      obtain ⟨rfl, rfl, hs⟩ := h
      show DOp (Ieee.double.read (Ieee.double.nearest s m i)) (Ieee.double.read (Ieee.double.nearest t m i))
      rw [nearest_rung, nearest_rung]
      refine word_op (rungOf_le _ _) ?_
      rcases hs with rfl | rfl
      · exact .inl (by unfold rungOf; rw [if_pos rfl])
      · exact .inr rfl
/-- Values turned about. -/
def Op : Option Nat → Option Nat → Prop
  | none, none => True
  | some a, some b => DOp (Ieee.double.read a) (Ieee.double.read b)
  | _, _ => False
theorem op_write {x y : Option Ieee.Datum} (h : ODOp x y) : Op (x.map Ieee.double.write) (y.map Ieee.double.write) := by
  cases x <;> cases y
  · exact trivial
  · exact h.elim
  · exact h.elim
  · exact write_op h
theorem Op.add {x x' y y' : Option Nat} (h : Op x x') (k : Op y y') : Op (fadd x y) (fadd x' y') := by
  cases x <;> cases x' <;> first | exact h.elim | skip
  · exact trivial
  · cases y <;> cases y' <;> first | exact k.elim | skip
    · exact trivial
    · exact op_write (DOp.sum h k)
theorem Op.sub {x x' y y' : Option Nat} (h : Op x x') (k : Op y y') : Op (fsub x y) (fsub x' y') := by
  cases x <;> cases x' <;> first | exact h.elim | skip
  · exact trivial
  · cases y <;> cases y' <;> first | exact k.elim | skip
    · exact trivial
    · exact op_write (DOp.sum h (DOp.opposite k))
theorem Op.mul {x x' : Option Nat} (h : Op x x') (c : Option Nat) : Op (fmul x c) (fmul x' c) := by
  cases x <;> cases x' <;> first | exact h.elim | skip
  · exact trivial
  · cases c
    · exact trivial
    · exact op_write (DOp.product h _)
theorem fmul_comm (x y : Option Nat) : fmul x y = fmul y x := by
  cases x <;> cases y
  · rfl
  · rfl
  · rfl
  · exact congrArg (Option.map Ieee.double.write) (product_comm _ _)
theorem Op.lmul {x x' : Option Nat} (h : Op x x') (c : Option Nat) : Op (fmul c x) (fmul c x') := by
  rw [fmul_comm c x, fmul_comm c x']
  exact h.mul c
theorem Op.div {x x' : Option Nat} (h : Op x x') (c : Option Nat) : Op (fdiv x c) (fdiv x' c) := by
  cases x <;> cases x' <;> first | exact h.elim | skip
  · exact trivial
  · cases c
    · exact trivial
    · exact op_write (DOp.quotient h _)
theorem signed_eq0 (s : Bool) (m k : Nat) : Ieee.signed s m k = 0 ↔ m = 0 := by
  unfold Ieee.signed
  rw [Nat.shiftLeft_eq]
  have := Nat.two_pow_pos k
  have h : m * 2 ^ k = 0 ↔ m = 0 := by
    rw [Nat.mul_eq_zero]
    constructor
    · rintro (h | h)
      · exact h
      · omega
    · exact .inl
  cases s
  · show ((m * 2 ^ k : Nat) : Int) = 0 ↔ m = 0
    omega
  · show -((m * 2 ^ k : Nat) : Int) = 0 ↔ m = 0
    omega
theorem read_0 : Ieee.double.read 0 = .number false 0 Ieee.double.leastPlace := by rfl
/-- Equal to nought: its magnitude is. -/
theorem feq_zero {a : Nat} : feq (some a) (val 0) = true ↔ ∃ s e, Ieee.double.read a = .number s 0 e := by
  rw [show val 0 = some 0 from rfl]
  unfold feq ford
  simp only [Option.bind_some, Ieee.Format.order, read_0]
  cases Ieee.double.read a with
  | nan => simp [Ieee.Datum.order]
  | infinity s => cases s <;> simp [Ieee.Datum.order]
  | number s m e =>
    simp only [Ieee.Datum.order]
    rw [(signed_eq0 false 0 _).2 rfl]
    have h := signed_eq0 s m (e - min e Ieee.double.leastPlace).toNat
    generalize Ieee.signed s m (e - min e Ieee.double.leastPlace).toNat = x at h
    simp [compare, compareOfLessAndEq]
    split
    · simp; omega
    · split
      · simp; omega
      · simp; omega
/-- Finite: it reads as a number. -/
theorem fin_iff {x : Option Nat} : fin x = true ↔ ∃ a s m e, x = some a ∧ Ieee.double.read a = .number s m e := by
  cases x with
  | none => simp [fin, fsub, fop, feq, ford]
  | some a =>
    unfold fin
    constructor
    · intro h
      cases hr : Ieee.double.read a with
      | number s m e => exact ⟨a, s, m, e, rfl, hr⟩
      | infinity s =>
        have : fsub (some a) (some a) = none := by
          show ((Ieee.double.read a).sum (Ieee.double.read a).opposite).map Ieee.double.write = none
          rw [hr]
          cases s <;> rfl
        rw [this] at h
        cases h
      | nan s t =>
        have : fsub (some a) (some a) = none := by
          show ((Ieee.double.read a).sum (Ieee.double.read a).opposite).map Ieee.double.write = none
          rw [hr]
          rfl
        rw [this] at h
        cases h
    · rintro ⟨a', s, m, e, h, hr⟩
      cases h
      have : fsub (some a) (some a) = some (Ieee.double.word (s && !s) 0) := by
        show ((Ieee.double.read a).sum (Ieee.double.read a).opposite).map Ieee.double.write = _
        rw [hr]
        have hz : Ieee.signed s m (e - min e e).toNat + Ieee.signed (!s) m (e - min e e).toNat = 0 := by
          rw [signed_op (s := s) (t := !s) (.inr rfl)]
          omega
        simp only [Ieee.Datum.opposite, Ieee.Datum.sum, hz, if_true, Int.natAbs_zero, Option.map_some]
        show some (Ieee.double.nearest (s && !s) 0 _) = _
        rw [nearest_rung]
        rfl
      rw [this]
      exact feq_zero.2 ⟨_, _, by rw [read_word _ _ (by omega), if_pos (by omega)]⟩
theorem Op.fin {x x' : Option Nat} (h : Op x x') : fin x = fin x' := by
  rw [Bool.eq_iff_iff, fin_iff, fin_iff]
  cases x <;> cases x' <;> first | exact h.elim | skip
  · simp
  · rename_i a b
    replace h : DOp (Ieee.double.read a) (Ieee.double.read b) := h
    constructor
    · rintro ⟨_, s, m, e, h1, h2⟩
      cases h1
      rw [h2] at h
      cases hb : Ieee.double.read b with
      | number t n f => exact ⟨b, t, n, f, rfl, hb⟩
      | infinity => rw [hb] at h; exact h.elim
      | nan => rw [hb] at h; exact h.elim
    · rintro ⟨_, s, m, e, h1, h2⟩
      cases h1
      rw [h2] at h
      cases hb : Ieee.double.read a with
      | number t n f => exact ⟨a, t, n, f, rfl, hb⟩
      | infinity => rw [hb] at h; exact h.elim
      | nan => rw [hb] at h; exact h.elim
/-- Two that are both the opposite of a number are equal. -/
theorem Op.two {x y z : Option Nat} (h : Op x y) (k : Op x z) (hf : Go.Proofs.Ytgcakhmdmajplaa.fin x = true) : feq y z = true := by
  obtain ⟨a, s, m, e, rfl, hr⟩ := fin_iff.1 hf
  cases y with
  | none => exact h.elim
  | some b =>
    cases z with
    | none => exact k.elim
    | some c =>
      replace h : DOp (Ieee.double.read a) (Ieee.double.read b) := h
      replace k : DOp (Ieee.double.read a) (Ieee.double.read c) := k
      rw [hr] at h k
      unfold feq ford
      simp only [Option.bind_some, Ieee.Format.order]
      cases hb : Ieee.double.read b with
      | infinity => rw [hb] at h; exact h.elim
      | nan => rw [hb] at h; exact h.elim
      | number t n f =>
        cases hc : Ieee.double.read c with
        | infinity => rw [hc] at k; exact k.elim
        | nan => rw [hc] at k; exact k.elim
        | number t' n' f' =>
          rw [hb] at h
          rw [hc] at k
          obtain ⟨rfl, rfl, h3⟩ := h
          obtain ⟨rfl, rfl, k3⟩ := k
          simp only [Ieee.Datum.order]
          rw [signed_op h3, signed_op k3]
          simp [compare, compareOfLessAndEq]
theorem op_neg {a : Nat} (hn : nanB a = false) : Op (some a) (some (negB a)) := by
  have h1 : Ieee.double.signWeight = 9223372036854775808 := by decide +kernel
  have e1 : negB a % 9223372036854775808 = a % 9223372036854775808 := negB_mod a
  have e2 : (negB a / 9223372036854775808 % 2 == 1) = !(a / 9223372036854775808 % 2 == 1) := by
    have h2 : ∀ x : Nat, (x / 9223372036854775808 % 2 == 1) = x.testBit 63 := by
      intro x
      rw [Nat.testBit_eq_decide_div_mod_eq, show (2 : Nat) ^ 63 = 9223372036854775808 from by decide]
      rfl
    rw [h2, h2]
    unfold negB
    rw [Nat.testBit_xor, show (9223372036854775808 : Nat).testBit 63 = true from by decide]
    cases a.testBit 63 <;> rfl
  unfold nanB at hn
  show DOp (Ieee.double.read a) (Ieee.double.read (negB a))
  unfold Ieee.Format.read
  simp only [h1, e1, e2]
  have h3 : Ieee.double.infRung = 9218868437227405312 := by decide +kernel
  rw [decide_eq_false_iff_not] at hn
  split
  · exact ⟨rfl, rfl, .inr rfl⟩
  · split
    · exact ⟨rfl, rfl, .inr rfl⟩
    · split
      · exact (rfl : _ = _)
      · rw [h3] at *
        omega
/-- A nought, of either sign. -/
def Zr (x : Option Nat) : Prop := ∃ a s e, x = some a ∧ Ieee.double.read a = .number s 0 e
theorem Zr.eq {x : Option Nat} (h : Zr x) : feq x (val 0) = true := by
  obtain ⟨a, s, e, rfl, h⟩ := h
  exact feq_zero.2 ⟨s, e, h⟩
theorem Zr.fin {x : Option Nat} (h : Zr x) : fin x = true := by
  obtain ⟨a, s, e, rfl, h⟩ := h
  exact fin_iff.2 ⟨a, s, 0, e, rfl, h⟩
theorem zr_0 : Zr (val 0) := ⟨0, false, _, rfl, read_0⟩
theorem zr_write (s : Bool) (e : Int) : Zr (some (Ieee.double.write (.number s 0 e))) := by
  refine ⟨_, s, Ieee.double.leastPlace, rfl, ?_⟩
  show Ieee.double.read (Ieee.double.nearest s 0 e) = _
  rw [nearest_rung, show rungOf 0 e = 0 from rfl, read_word _ _ (by omega), if_pos (by omega)]
theorem Zr.add {x y : Option Nat} (h : Zr x) (k : Zr y) : Zr (fadd x y) := by
  obtain ⟨a, s, e, rfl, ha⟩ := h
  obtain ⟨b, t, f, rfl, hb⟩ := k
  have : fadd (some a) (some b) = some (Ieee.double.write (.number (s && t) 0 (min e f))) := by
    show ((Ieee.double.read a).sum (Ieee.double.read b)).map Ieee.double.write = _
    rw [ha, hb]
    simp only [Ieee.Datum.sum]
    rw [(signed_eq0 s 0 _).2 rfl, (signed_eq0 t 0 _).2 rfl]
    rfl
  rw [this]
  exact zr_write _ _
theorem Zr.sub {x y : Option Nat} (h : Zr x) (k : Zr y) : Zr (fsub x y) := by
  obtain ⟨a, s, e, rfl, ha⟩ := h
  obtain ⟨b, t, f, rfl, hb⟩ := k
  have : fsub (some a) (some b) = some (Ieee.double.write (.number (s && !t) 0 (min e f))) := by
    show ((Ieee.double.read a).sum (Ieee.double.read b).opposite).map Ieee.double.write = _
    rw [ha, hb]
    simp only [Ieee.Datum.opposite, Ieee.Datum.sum]
    rw [(signed_eq0 s 0 _).2 rfl, (signed_eq0 (!t) 0 _).2 rfl]
    rfl
  rw [this]
  exact zr_write _ _
theorem Zr.mul {x y : Option Nat} (h : Zr x) (k : Go.Proofs.Ytgcakhmdmajplaa.fin y = true) : Zr (fmul x y) := by
  obtain ⟨a, s, e, rfl, ha⟩ := h
  obtain ⟨b, t, n, f, rfl, hb⟩ := fin_iff.1 k
  have : fmul (some a) (some b) = some (Ieee.double.write (.number (s ^^ t) 0 (e + f))) := by
    show ((Ieee.double.read a).product (Ieee.double.read b)).map Ieee.double.write = _
    rw [ha, hb]
    simp only [Ieee.Datum.product, Nat.zero_mul, Option.map_some]
  rw [this]
  exact zr_write _ _
theorem Zr.lmul {x y : Option Nat} (h : Zr x) (k : Go.Proofs.Ytgcakhmdmajplaa.fin y = true) : Zr (fmul y x) := by
  rw [fmul_comm]
  exact h.mul k
/-- A nought by what gives something finite elsewhere. -/
theorem Zr.div {x y z : Option Nat} (h : Zr x) (k : Go.Proofs.Ytgcakhmdmajplaa.fin (fdiv z y) = true) : Zr (fdiv x y) := by
  obtain ⟨a, s, e, rfl, ha⟩ := h
  cases y with
  | none =>
    have : fdiv z none = none := by cases z <;> rfl
    rw [this] at k
    simp [Go.Proofs.Ytgcakhmdmajplaa.fin, fsub, fop, feq, ford] at k
  | some b =>
    have hx : fdiv (some a) (some b) = ((Ieee.double.read a).quotient _ (Ieee.double.read b)).map Ieee.double.write := rfl
    rw [hx, ha]
    cases z with
    | none => simp [fdiv, Go.Proofs.Ytgcakhmdmajplaa.fin, fsub, fop, feq, ford] at k
    | some c =>
      have hz : fdiv (some c) (some b) = ((Ieee.double.read c).quotient _ (Ieee.double.read b)).map Ieee.double.write := rfl
      rw [hz] at k
      cases hb : Ieee.double.read b with
      | nan => rw [hb] at k; cases hc : Ieee.double.read c <;> rw [hc] at k <;> simp [Ieee.Datum.quotient, Go.Proofs.Ytgcakhmdmajplaa.fin, fsub, fop, feq, ford] at k
      | infinity t => exact zr_write _ _
      | number t n f =>
        by_cases h0 : n = 0
        · exfalso
          subst h0
          rw [hb] at k
          obtain ⟨w, s1, m1, e1, hw, hr⟩ := fin_iff.1 k
          cases hc : Ieee.double.read c with
          | nan => rw [hc] at hw; cases hw
          | infinity u =>
            rw [hc] at hw
            cases hw
            rw [show Ieee.double.write (.infinity (u ^^ t)) = Ieee.double.word (u ^^ t) 9218868437227405312 from by
              show Ieee.double.word _ Ieee.double.infRung = _
              rw [show Ieee.double.infRung = 9218868437227405312 by decide +kernel], read_word _ _ (Nat.le_refl _), if_neg (by omega), if_neg (by omega)] at hr
            cases hr
          | number u q g =>
            rw [hc] at hw
            simp only [Ieee.Datum.quotient, if_true] at hw
            split at hw
            · cases hw
            · cases hw
              rw [show Ieee.double.write (.infinity (u ^^ t)) = Ieee.double.word (u ^^ t) 9218868437227405312 from by
                show Ieee.double.word _ Ieee.double.infRung = _
                rw [show Ieee.double.infRung = 9218868437227405312 by decide +kernel], read_word _ _ (Nat.le_refl _), if_neg (by omega), if_neg (by omega)] at hr
              cases hr
        · simp only [Ieee.Datum.quotient, if_neg h0]
          simp only [Nat.zero_shiftLeft, Nat.zero_div, Nat.zero_mod, bne_self_eq_false, Bool.toNat_false, Nat.mul_zero, Nat.add_zero, Option.map_some]
          exact zr_write _ _
end Go.Proofs.Ytgcakhmdmajplaa

namespace Go.Proofs.Ytgcakhmdmajplaa

def COp (x y : CV) : Prop := Op x.1 y.1 ∧ Op x.2 y.2
def CZ (x : CV) : Prop := Zr x.1 ∧ Zr x.2
theorem COp.add {x x' y y' : CV} (h : COp x x') (k : COp y y') : COp (cadd x y) (cadd x' y') := ⟨h.1.add k.1, h.2.add k.2⟩
theorem COp.sub {x x' y y' : CV} (h : COp x x') (k : COp y y') : COp (csub x y) (csub x' y') := ⟨h.1.sub k.1, h.2.sub k.2⟩
theorem COp.lmul {x x' : CV} (h : COp x x') (c : CV) : COp (cmul c x) (cmul c x') := ⟨(h.1.lmul _).sub (h.2.lmul _), (h.2.lmul _).add (h.1.lmul _)⟩
theorem COp.div {x x' : CV} (h : COp x x') (c : CV) : COp (cdiv x c) (cdiv x' c) := by
  unfold cdiv
  split
  · exact ⟨(h.1.add (h.2.mul _)).div _, (h.2.sub (h.1.mul _)).div _⟩
  · exact ⟨((h.1.mul _).add h.2).div _, ((h.2.mul _).sub h.1).div _⟩
theorem COp.fin {x x' : CV} (h : COp x x') : cfin x = cfin x' := by
  unfold cfin
  rw [h.1.fin, h.2.fin]
theorem cz_0 : CZ (val 0, val 0) := ⟨zr_0, zr_0⟩
theorem cop_0 : COp (val 0, val 0) (val 0, val 0) := ⟨⟨rfl, rfl, .inl rfl⟩, ⟨rfl, rfl, .inl rfl⟩⟩
theorem CZ.fin {x : CV} (h : CZ x) : cfin x = true := by
  unfold cfin
  rw [h.1.fin, h.2.fin]
  rfl
/-- What is not finite stays so. -/
theorem not_fin {x : Option Nat} : fin x = false ↔ x = none ∨ ∃ a, x = some a ∧ ((∃ s, Ieee.double.read a = .infinity s) ∨ ∃ s t, Ieee.double.read a = .nan s t) := by
  constructor
  · intro h
    cases x with
    | none => exact .inl rfl
    | some a =>
      refine .inr ⟨a, rfl, ?_⟩
      cases hr : Ieee.double.read a with
      | nan s t => exact .inr ⟨s, t, rfl⟩
      | infinity s => exact .inl ⟨s, rfl⟩
      | number s m e => rw [fin_iff.2 ⟨a, s, m, e, rfl, hr⟩] at h; cases h
  · intro h
    rw [← Bool.not_eq_true, fin_iff]
    rintro ⟨a, s, m, e, rfl, hr⟩
    rcases h with h | ⟨b, h, ⟨t, k⟩ | ⟨t, u, k⟩⟩
    · cases h
    · cases h; rw [hr] at k; cases k
    · cases h; rw [hr] at k; cases k
theorem read_winf (s : Bool) : Ieee.double.read (Ieee.double.write (.infinity s)) = .infinity s := by
  rw [show Ieee.double.write (.infinity s) = Ieee.double.word s 9218868437227405312 from by
    show Ieee.double.word _ Ieee.double.infRung = _
    rw [show Ieee.double.infRung = 9218868437227405312 by decide +kernel], read_word _ _ (Nat.le_refl _), if_neg (by omega), if_neg (by omega)]
theorem nf_winf (s : Bool) : fin (some (Ieee.double.write (.infinity s))) = false := not_fin.2 (.inr ⟨_, rfl, .inl ⟨s, read_winf s⟩⟩)
theorem nf_none : fin none = false := not_fin.2 (.inl rfl)
theorem nf_add {x y : Option Nat} (h : fin x = false ∨ fin y = false) : fin (fadd x y) = false := by
  cases x with
  | none => exact nf_none
  | some a =>
    cases y with
    | none => exact nf_none
    | some b =>
      show fin (((Ieee.double.read a).sum (Ieee.double.read b)).map Ieee.double.write) = false
      have e : ∀ {c : Nat}, fin (some c) = false → (∃ s, Ieee.double.read c = .infinity s) ∨ ∃ s t, Ieee.double.read c = .nan s t := fun h => by
        rcases not_fin.1 h with h | ⟨d, h, k⟩
        · cases h
        · cases h; exact k
      rcases h with h | h
      · rcases e h with ⟨s, hs⟩ | ⟨s, t, hs⟩
        · rw [hs]
          cases Ieee.double.read b with
          | nan => exact nf_none
          | infinity t => simp only [Ieee.Datum.sum]; split; exact nf_winf _; exact nf_none
          | number => exact nf_winf _
        · rw [hs]; exact nf_none
      · rcases e h with ⟨s, hs⟩ | ⟨s, t, hs⟩
        · rw [hs]
          cases Ieee.double.read a with
          | nan => exact nf_none
          | infinity t => simp only [Ieee.Datum.sum]; split; exact nf_winf _; exact nf_none
          | number => exact nf_winf _
        · rw [hs]; cases Ieee.double.read a <;> exact nf_none
theorem nf_sub {x y : Option Nat} (h : fin x = false ∨ fin y = false) : fin (fsub x y) = false := by
  cases x with
  | none => exact nf_none
  | some a =>
    cases y with
    | none => exact nf_none
    | some b =>
      show fin (((Ieee.double.read a).sum (Ieee.double.read b).opposite).map Ieee.double.write) = false
      have e : ∀ {c : Nat}, fin (some c) = false → (∃ s, Ieee.double.read c = .infinity s) ∨ ∃ s t, Ieee.double.read c = .nan s t := fun h => by
        rcases not_fin.1 h with h | ⟨d, h, k⟩
        · cases h
        · cases h; exact k
      rcases h with h | h
      · rcases e h with ⟨s, hs⟩ | ⟨s, t, hs⟩
        · rw [hs]
          cases Ieee.double.read b with
          | nan => exact nf_none
          | infinity t => simp only [Ieee.Datum.opposite, Ieee.Datum.sum]; split; exact nf_winf _; exact nf_none
          | number => exact nf_winf _
        · rw [hs]; exact nf_none
      · rcases e h with ⟨s, hs⟩ | ⟨s, t, hs⟩
        · rw [hs]
          cases Ieee.double.read a with
          | nan => exact nf_none
          | infinity t => simp only [Ieee.Datum.opposite, Ieee.Datum.sum]; split; exact nf_winf _; exact nf_none
          | number => exact nf_winf _
        · rw [hs]; cases Ieee.double.read a <;> exact nf_none
theorem nf_mul {x y : Option Nat} (h : fin x = false) : fin (fmul x y) = false := by
  rcases not_fin.1 h with rfl | ⟨a, rfl, ⟨s, hs⟩ | ⟨s, t, hs⟩⟩
  · exact nf_none
  · cases y with
    | none => exact nf_none
    | some b =>
      show fin (((Ieee.double.read a).product (Ieee.double.read b)).map Ieee.double.write) = false
      rw [hs]
      cases Ieee.double.read b with
      | nan => exact nf_none
      | infinity t => exact nf_winf _
      | number => simp only [Ieee.Datum.product]; split; exact nf_none; exact nf_winf _
  · cases y with
    | none => exact nf_none
    | some b =>
      show fin (((Ieee.double.read a).product (Ieee.double.read b)).map Ieee.double.write) = false
      rw [hs]
      exact nf_none
theorem nf_lmul {x y : Option Nat} (h : fin x = false) : fin (fmul y x) = false := by
  rw [fmul_comm]
  exact nf_mul h
theorem nf_div {x y : Option Nat} (h : fin x = false) : fin (fdiv x y) = false := by
  rcases not_fin.1 h with rfl | ⟨a, rfl, ⟨s, hs⟩ | ⟨s, t, hs⟩⟩
  · exact nf_none
  · cases y with
    | none => exact nf_none
    | some b =>
      show fin (((Ieee.double.read a).quotient _ (Ieee.double.read b)).map Ieee.double.write) = false
      rw [hs]
      cases Ieee.double.read b with
      | nan => exact nf_none
      | infinity t => exact nf_none
      | number => exact nf_winf _
  · cases y with
    | none => exact nf_none
    | some b =>
      show fin (((Ieee.double.read a).quotient _ (Ieee.double.read b)).map Ieee.double.write) = false
      rw [hs]
      exact nf_none
theorem fin_of {x y : Option Nat} (h : fin x = false → fin y = false) (k : fin y = true) : fin x = true := by
  cases hx : fin x with
  | true => rfl
  | false => rw [h hx] at k; cases k
theorem cfin_iff {z : CV} : cfin z = true ↔ fin z.1 = true ∧ fin z.2 = true := by unfold cfin; rw [Bool.and_eq_true]
theorem fin_fac {s m x : CV} (h : cfin (csub s (cmul m x)) = true) : cfin m = true := by
  obtain ⟨h1, -⟩ := cfin_iff.1 h
  exact cfin_iff.2 ⟨fin_of (fun h => nf_sub (.inr (nf_sub (.inl (nf_mul h))))) h1, fin_of (fun h => nf_sub (.inr (nf_sub (.inr (nf_mul h))))) h1⟩
theorem CZ.add {x y : CV} (h : CZ x) (k : CZ y) : CZ (cadd x y) := ⟨h.1.add k.1, h.2.add k.2⟩
theorem CZ.sub {x y : CV} (h : CZ x) (k : CZ y) : CZ (csub x y) := ⟨h.1.sub k.1, h.2.sub k.2⟩
theorem CZ.lmul {x c : CV} (h : CZ x) (k : cfin c = true) : CZ (cmul c x) := by
  obtain ⟨k1, k2⟩ := cfin_iff.1 k
  exact ⟨(h.1.lmul k1).sub (h.2.lmul k2), (h.2.lmul k1).add (h.1.lmul k2)⟩
theorem CZ.div {x z c : CV} (h : CZ x) (k : cfin (cdiv z c) = true) : CZ (cdiv x c) := by
  unfold cdiv at k ⊢
  split at k
  · rename_i hc
    rw [if_pos hc]
    obtain ⟨k1, k2⟩ := cfin_iff.1 k
    have hr : Go.Proofs.Ytgcakhmdmajplaa.fin (fdiv c.2 c.1) = true := fin_of (fun h => nf_div (nf_add (.inr (nf_lmul h)))) k1
    exact ⟨(h.1.add (h.2.mul hr)).div k1, (h.2.sub (h.1.mul hr)).div k2⟩
  · rename_i hc
    rw [if_neg hc]
    obtain ⟨k1, k2⟩ := cfin_iff.1 k
    have hr : Go.Proofs.Ytgcakhmdmajplaa.fin (fdiv c.1 c.2) = true := fin_of (fun h => nf_div (nf_add (.inl (nf_lmul h)))) k1
    exact ⟨((h.1.mul hr).add h.2).div k1, ((h.2.mul hr).sub h.1).div k2⟩

def SOp (s t : SolS) : Prop := (∀ j, COp (s.1 j) (t.1 j)) ∧ s.2 = t.2
theorem setX_op {x y : Nat → CV} (h : ∀ j, COp (x j) (y j)) {i : Nat} {a b : CV} (k : COp a b) (j : Nat) : COp (setX x i a j) (setX y i b j) := by
  unfold setX
  split
  · exact k
  · exact h j
theorem SOp.f {s t : SolS} (h : SOp s t) (M : Nat → Nat → CV) (i k : Nat) : SOp (fstepF M i k s) (fstepF M i k t) := by
  have e := (h.1 i).sub ((h.1 k).lmul (M i k))
  refine ⟨setX_op h.1 e, ?_⟩
  show (s.2 || !cfin _) = (t.2 || !cfin _)
  rw [h.2, e.fin]
theorem SOp.d {s t : SolS} (h : SOp s t) (M : Nat → Nat → CV) (i : Nat) : SOp (dstepF M i s) (dstepF M i t) := by
  have e := (h.1 i).div (M i i)
  refine ⟨setX_op h.1 e, ?_⟩
  show (s.2 || !cfin _) = (t.2 || !cfin _)
  rw [h.2, e.fin]
theorem SOp.row (M : Nat → Nat → CV) (i : Nat) : ∀ (f k : Nat) {s t : SolS}, SOp s t → SOp (rowF M i f k s) (rowF M i f k t)
  | 0, _, _, _, h => h
  | f + 1, k, _, _, h => SOp.row M i f (k + 1) (h.f M i k)
theorem SOp.fwd (M : Nat → Nat → CV) (od : Nat → Nat) {b c : Nat → CV} (hb : ∀ j, COp (b j) (c j)) : ∀ (f i : Nat) {s t : SolS}, SOp s t → SOp (fwdF M od b f i s) (fwdF M od c f i t)
  | 0, _, _, _, h => h
  | f + 1, i, _, _, h => SOp.fwd M od hb f (i + 1) (SOp.row M i i 0 ⟨setX_op h.1 (hb _), h.2⟩)
theorem SOp.bwd (n : Nat) (M : Nat → Nat → CV) : ∀ (i : Nat) {s t : SolS}, SOp s t → SOp (bwdF n M i s) (bwdF n M i t)
  | 0, _, _, h => h
  | i + 1, _, _, h => SOp.bwd n M i ((SOp.row M i _ _ h).d M i)
theorem row_mono (M : Nat → Nat → CV) (i : Nat) : ∀ (f k : Nat) (s : SolS), (rowF M i f k s).2 = false → s.2 = false
  | 0, _, _, h => h
  | f + 1, k, s, h => by
    have h2 : (s.2 || !cfin (csub (s.1 i) (cmul (M i k) (s.1 k)))) = false := row_mono M i f (k + 1) (fstepF M i k s) h
    rw [Bool.or_eq_false_iff] at h2
    exact h2.1
theorem fwd_mono (M : Nat → Nat → CV) (od : Nat → Nat) (b : Nat → CV) : ∀ (f i : Nat) (s : SolS), (fwdF M od b f i s).2 = false → s.2 = false
  | 0, _, _, h => h
  | f + 1, i, s, h => row_mono M i i 0 (setX s.1 i (b (od i)), s.2) (fwd_mono M od b f (i + 1) (rowF M i i 0 (setX s.1 i (b (od i)), s.2)) h)
theorem bwd_mono (n : Nat) (M : Nat → Nat → CV) : ∀ (i : Nat) (s : SolS), (bwdF n M i s).2 = false → s.2 = false
  | 0, _, h => h
  | i + 1, s, h => by
    have h2 : ((rowF M i (n - (i + 1)) (i + 1) s).2 || !cfin (cdiv ((rowF M i (n - (i + 1)) (i + 1) s).1 i) (M i i))) = false := bwd_mono n M i _ h
    rw [Bool.or_eq_false_iff] at h2
    exact row_mono M i _ _ s h2.1
/-- All noughts. -/
def SZ (t : SolS) : Prop := (∀ j, CZ (t.1 j)) ∧ t.2 = false
theorem setX_z {x : Nat → CV} (h : ∀ j, CZ (x j)) {i : Nat} {a : CV} (k : CZ a) (j : Nat) : CZ (setX x i a j) := by
  unfold setX
  split
  · exact k
  · exact h j
theorem SZ.row (M : Nat → Nat → CV) (i : Nat) : ∀ (f k : Nat) {s t : SolS}, SZ t → (rowF M i f k s).2 = false → SZ (rowF M i f k t)
  | 0, _, _, _, h, _ => h
  | f + 1, k, s, t, h, hs => by
    have h2 : (s.2 || !cfin (csub (s.1 i) (cmul (M i k) (s.1 k)))) = false := row_mono M i f (k + 1) (fstepF M i k s) hs
    rw [Bool.or_eq_false_iff] at h2
    have hm : cfin (M i k) = true := fin_fac (by simpa using h2.2)
    have e := (h.1 i).sub ((h.1 k).lmul hm)
    refine SZ.row M i f (k + 1) (s := fstepF M i k s) (t := fstepF M i k t) ⟨setX_z h.1 e, ?_⟩ hs
    show (t.2 || !cfin _) = false
    rw [h.2, e.fin]
    rfl
theorem SZ.fwd (M : Nat → Nat → CV) (od : Nat → Nat) (b : Nat → CV) {c : Nat → CV} (hc : ∀ j, CZ (c j)) : ∀ (f i : Nat) {s t : SolS}, SZ t → (fwdF M od b f i s).2 = false → SZ (fwdF M od c f i t)
  | 0, _, _, _, h, _ => h
  | f + 1, i, s, t, h, hs => SZ.fwd M od b hc f (i + 1) (s := rowF M i i 0 (setX s.1 i (b (od i)), s.2)) (SZ.row M i i 0 (s := (setX s.1 i (b (od i)), s.2)) (t := (setX t.1 i (c (od i)), t.2)) ⟨setX_z h.1 (hc _), h.2⟩ (fwd_mono M od b f (i + 1) _ hs)) hs
theorem SZ.bwd (n : Nat) (M : Nat → Nat → CV) : ∀ (i : Nat) {s t : SolS}, SZ t → (bwdF n M i s).2 = false → SZ (bwdF n M i t)
  | 0, _, _, h, _ => h
  | i + 1, s, t, h, hs => by
    have h2 : ((rowF M i (n - (i + 1)) (i + 1) s).2 || !cfin (cdiv ((rowF M i (n - (i + 1)) (i + 1) s).1 i) (M i i))) = false := bwd_mono n M i _ hs
    rw [Bool.or_eq_false_iff] at h2
    have hr := SZ.row M i (n - (i + 1)) (i + 1) (s := s) h h2.1
    have e := (hr.1 i).div (by simpa using h2.2)
    refine SZ.bwd n M i (s := dstepF M i (rowF M i (n - (i + 1)) (i + 1) s)) (t := dstepF M i (rowF M i (n - (i + 1)) (i + 1) t)) ⟨setX_z hr.1 e, ?_⟩ hs
    show ((rowF M i (n - (i + 1)) (i + 1) t).2 || !cfin _) = false
    rw [hr.2, e.fin]
    rfl
theorem row_keep (M : Nat → Nat → CV) (i j : Nat) (hj : j ≠ i) : ∀ (f k : Nat) (s : SolS), (rowF M i f k s).1 j = s.1 j
  | 0, _, _ => rfl
  | f + 1, k, s => (row_keep M i j hj f (k + 1) _).trans (show setX s.1 i _ j = s.1 j by unfold setX; rw [if_neg hj])
theorem bwd_keep (n : Nat) (M : Nat → Nat → CV) : ∀ (i : Nat) (s : SolS) (j : Nat), i ≤ j → (bwdF n M i s).1 j = s.1 j
  | 0, _, _, _ => rfl
  | i + 1, s, j, hj => by
    refine (bwd_keep n M i _ j (by omega)).trans ?_
    show setX _ i _ j = _
    unfold setX
    rw [if_neg (by omega)]
    exact row_keep M i j (by omega) _ _ s
theorem bwd_fin (n : Nat) (M : Nat → Nat → CV) : ∀ (i : Nat) (s : SolS), (bwdF n M i s).2 = false → ∀ j, j < i → cfin ((bwdF n M i s).1 j) = true
  | 0, _, _, j, hj => absurd hj (Nat.not_lt_zero j)
  | i + 1, s, h, j, hj => by
    rcases Nat.lt_or_ge j i with h1 | h1
    · exact bwd_fin n M i _ h j h1
    · obtain rfl : j = i := by omega
      have h2 : ((rowF M j (n - (j + 1)) (j + 1) s).2 || !cfin (cdiv ((rowF M j (n - (j + 1)) (j + 1) s).1 j) (M j j))) = false := bwd_mono n M j _ h
      rw [Bool.or_eq_false_iff] at h2
      show cfin ((bwdF n M j (dstepF M j (rowF M j (n - (j + 1)) (j + 1) s))).1 j) = true
      rw [bwd_keep n M j _ j (Nat.le_refl _)]
      show cfin (setX _ j _ j) = true
      unfold setX
      rw [if_pos rfl]
      simpa using h2.2
/-- Right sides turned about. -/
def LOp (b c : List CV) : Prop := b.length = c.length ∧ ∀ j, COp (b.getD j (none, none)) (c.getD j (none, none))
theorem LOp.get {b c : List CV} (h : LOp b c) {j : Nat} (hj : j < b.length) : COp (b[j]) (c[j]'(h.1 ▸ hj)) := by
  have := h.2 j
  rw [List.getD_eq_getElem?_getD, List.getD_eq_getElem?_getD, List.getElem?_eq_getElem hj, List.getElem?_eq_getElem (h.1 ▸ hj)] at this
  exact this
theorem LOp.all {b c : List CV} (h : LOp b c) : b.all cfin = c.all cfin := by
  rw [Bool.eq_iff_iff, List.all_eq_true, List.all_eq_true]
  constructor
  · intro k x hx
    obtain ⟨j, hj, rfl⟩ := List.mem_iff_getElem.1 hx
    rw [← (h.get (j := j) (by rw [h.1]; exact hj)).fin]
    exact k _ (List.getElem_mem _)
  · intro k x hx
    obtain ⟨j, hj, rfl⟩ := List.mem_iff_getElem.1 hx
    rw [(h.get hj).fin]
    exact k _ (List.getElem_mem _)
theorem sol_op (n : Nat) (M : Nat → Nat → CV) (od : Nat → Nat) {b c : List CV} (h : LOp b c) : (solF n M od b).1 = (solF n M od c).1 ∧ ((solF n M od b).1 = 0 → ∀ j, COp ((solF n M od b).2 j) ((solF n M od c).2 j)) := by
  have hw : wrF n b = wrF n c := by
    unfold wrF
    rw [h.1, h.all]
  unfold solF
  rw [← hw]
  split
  · exact ⟨rfl, fun e => absurd e (by assumption)⟩
  · have S : SOp (bwdF n M n (fwdF M od (fun i => b.getD i (none, none)) n 0 (fun _ => (val 0, val 0), false))) (bwdF n M n (fwdF M od (fun i => c.getD i (none, none)) n 0 (fun _ => (val 0, val 0), false))) := SOp.bwd n M n (SOp.fwd M od h.2 n 0 ⟨fun _ => cop_0, rfl⟩)
    dsimp only
    rw [← S.2]
    split
    · exact ⟨rfl, fun e => by cases e⟩
    · exact ⟨rfl, fun _ => S.1⟩
theorem sol_zero (n : Nat) (M : Nat → Nat → CV) (od : Nat → Nat) {b c : List CV} (hl : c.length = b.length) (hc : ∀ j, j < c.length → CZ (c.getD j (none, none))) (hod : ∀ i, i < n → od i < n) (h : (solF n M od b).1 = 0) : (solF n M od c).1 = 0 ∧ ∀ j, CZ ((solF n M od c).2 j) := by
  unfold solF at h
  split at h
  · rename_i h1
    exact absurd h h1
  · rename_i h1
    dsimp only at h
    have hn : c.length = n := by
      rw [hl]
      unfold wrF at h1
      split at h1
      · exact absurd (by decide) h1
      · rename_i h2
        omega
    have hw : wrF n c = 0 := by
      unfold wrF
      rw [if_neg (by omega), if_pos]
      rw [List.all_eq_true]
      intro x hx
      obtain ⟨j, hj, rfl⟩ := List.mem_iff_getElem.1 hx
      have := hc j hj
      rw [List.getD_eq_getElem?_getD, List.getElem?_eq_getElem hj] at this
      exact this.fin
    split at h
    · cases h
    · rename_i h2
      rw [Bool.not_eq_true] at h2
      -- beyond the length nothing is read: noughts there
      have hcz : ∀ j, CZ ((fun i => if i < n then c.getD i (none, none) else (val 0, val 0)) j) := fun j => by
        dsimp only
        split
        · exact hc j (by omega)
        · exact cz_0
      have e : ∀ (f i : Nat) (s : SolS), i + f ≤ n → fwdF M od (fun i => c.getD i (none, none)) f i s = fwdF M od (fun i => if i < n then c.getD i (none, none) else (val 0, val 0)) f i s := by
        intro f
        induction f with
        | zero => intro i s _; rfl
        | succ f ih =>
          intro i s hi
          unfold fwdF
          rw [ih (i + 1) _ (by omega), if_pos (hod i (by omega))]
      have S := SZ.bwd n M n (t := fwdF M od (fun i => if i < n then c.getD i (none, none) else (val 0, val 0)) n 0 (fun _ => (val 0, val 0), false)) (SZ.fwd M od (fun i => b.getD i (none, none)) hcz n 0 (s := (fun _ => (val 0, val 0), false)) ⟨fun _ => cz_0, rfl⟩ (bwd_mono n M n _ h2)) h2
      unfold solF
      rw [hw, if_neg (by simp)]
      dsimp only
      rw [e n 0 _ (by omega), S.2]
      exact ⟨rfl, S.1⟩
theorem sol_fin (n : Nat) (M : Nat → Nat → CV) (od : Nat → Nat) {b : List CV} (h : (solF n M od b).1 = 0) : ∀ j, j < n → cfin ((solF n M od b).2 j) = true := by
  unfold solF at h ⊢
  split at h
  · rename_i h1
    exact absurd h h1
  · rename_i h1
    rw [if_neg h1]
    dsimp only at h ⊢
    split at h
    · cases h
    · rename_i h2
      rw [if_neg h2]
      exact bwd_fin n M n _ (by simpa using h2)
end Go.Proofs.Ytgcakhmdmajplaa
