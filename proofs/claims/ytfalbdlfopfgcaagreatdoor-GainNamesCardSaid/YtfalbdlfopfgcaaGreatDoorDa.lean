/- ParseFloat of "1e" and an exponent. Condition: the tables lie there. -/
import Derived.Test.YtfalbdlfopfgcaaGreatDoorPf
import Derived.Test.YtfalbdlfopfgcaaGreatDoorShelf
namespace Go.Proofs.YtfalbdlfopfgcaaGreatDoor
open Go.RowKit

def dgs (k : Nat) : List Nat := (Lib.decDigits k).map (·.toNat)
theorem dgs_ok : ∀ k : Fin 325, (dgs k.val).all digB = true ∧ dgs k.val ≠ [] ∧ (dgs k.val).length ≤ 3 ∧ exV (dgs k.val) = (k.val : Int) := by decide +kernel
/-- The text of a power of ten. -/
def pwT (i : Int) : ByteArray := ⟨#[49, 101]⟩ ++ ⟨(Lib.itoa i).toArray⟩
theorem bys_pwT (i : Int) : bys (pwT i) = [49] ++ [101] ++ (Lib.itoa i).map (·.toNat) := by
  unfold bys pwT
  simp
/-- Does a number read without an error? -/
def gOk (d : Nat) (p : Int) (neg : Bool) : Bool := decide (p ≤ 310) && (exOk d p neg || decide (p < -345) || decide (64 ≤ pfS d p) || decide ((sgn neg ||| pfM (pfV (pfU d p))) &&& 4503599627370496 = 0) || decide (-(pfE d p - if 36028797018963966 ≤ pfU d p then 1 else 0) < 972))
theorem atG_nil {d : Nat} {p : Int} {neg : Bool} (h : gOk d p neg = true) : atG d p neg = .nilIface := by
  unfold gOk at h
  simp only [Bool.and_eq_true, Bool.or_eq_true, decide_eq_true_eq] at h
  obtain ⟨h1, h2⟩ := h
  unfold atG
  split
  · rfl
  · rw [if_neg (by omega)]
    split
    · rfl
    · split
      · rfl
      · rename_i h3 h4 h5
        unfold pfG packE
        split
        · rfl
        · rename_i h6
          split
          · rfl
          · rename_i h7
            rw [if_neg (by
              rcases h2 with (((h2 | h2) | h2) | h2) | h2
              · exact absurd h2 h5
              · exact absurd h2 h4
              · exact absurd h2 h6
              · exact absurd h2 h7
              · omega)]
/-- The word of a power of ten, from -323 on. -/
def teN (j : Nat) : Nat := (atV 1 ((j : Int) - 323) false).getD 0
set_option maxRecDepth 100000 in
theorem te_ok : ∀ j : Fin 632, gOk 1 ((j.val : Int) - 323) false = true ∧ atV 1 ((j.val : Int) - 323) false = some (teN j.val) := by decide +kernel
theorem exp_e (sg ds : List Nat) (i : Int) (h : (if sg = [] then exV ds else -exV ds) = i) : (if (rdB [49]).man = 0 then 0 else (if (rdB [49]).dot then (rdB [49]).dp else (rdB [49]).nd) + (if sg = [] then exV ds else -exV ds) - (rdB [49]).nm) = i := by
  rw [h]
  show (if (1 : Nat) = 0 then (0 : Int) else (((1 : Nat) : Int)) + i - ((1 : Nat) : Int)) = i
  rw [if_neg (by decide)]
  omega
theorem pf_e (i : Int) (h1 : -323 ≤ i) (h2 : i ≤ 308) (w : World) (hT : Tabs w) : Calls Tryz.prog 68 #[.string (pwT i), .int .i64 64] w (RetPf w (some (teN (i + 323).toNat))) := by
  obtain ⟨g1, g2⟩ := te_ok ⟨(i + 323).toNat, by omega⟩
  have e : (((i + 323).toNat : Nat) : Int) - 323 = i := by omega
  dsimp only at g1 g2
  rw [e] at g1 g2
  obtain ⟨k1, k2, k3, k4⟩ := dgs_ok ⟨i.natAbs, by omega⟩
  dsimp only at k1 k2 k3 k4
  obtain ⟨sg, hsg, hS⟩ : ∃ sg : List Nat, (sg = [] ∨ sg = [45]) ∧ bys (pwT i) = [49] ++ [101] ++ sg ++ dgs i.natAbs ∧ (if sg = [] then exV (dgs i.natAbs) else -exV (dgs i.natAbs)) = i := by
    by_cases hi : i < 0
    · refine ⟨[45], .inr rfl, ?_, ?_⟩
      · rw [bys_pwT]
        unfold Lib.itoa
        rw [if_pos hi]
        rfl
      · rw [if_neg (by decide), k4]
        omega
    · refine ⟨[], .inl rfl, ?_, ?_⟩
      · rw [bys_pwT]
        unfold Lib.itoa
        rw [if_neg hi, show i.toNat = i.natAbs by omega]
        rfl
      · rw [if_pos rfl, k4]
        omega
  obtain ⟨hS, hE⟩ := hS
  have hlen : (pwT i).size ≤ 200 := by
    rw [← bys_len, hS]
    rcases hsg with rfl | rfl <;> simp <;> omega
  have hR := fun w => readFloat_any (pwT i) false [49] sg (dgs i.natAbs) (by rw [hS]; rfl) (by decide) (by decide) (fun c hc => List.all_eq_true.1 k1 c hc) k2 hsg hlen (by decide) (by decide) w
  rw [exp_e sg _ i hE] at hR
  have hSp := fun w => special_d (pwT i) 49 (by rw [hS]; rfl) (.inl (by decide)) w
  have h := ParseFloat_ok (pwT i) 1 i false w (atof_any _ 1 _ i false (by decide) hSp hR w hT) (atG_nil g1)
  rw [g2] at h
  exact h
end Go.Proofs.YtfalbdlfopfgcaaGreatDoor

