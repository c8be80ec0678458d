/- Half power, plainly: where the places are; twice as great tells the same. No program; conditions: finite words of 64 bits. -/
import Derived.Test.YtnedjhoefmmelaaQuot
namespace Go.Proofs.Ytnedjhoefmmelaa

/-! The places, in order. -/
theorem halfP_split (l : List (Option Nat)) (h : Option Nat) (i : Nat) : ∀ n, i ≤ n → ∃ rest, halfP l h n = halfP l h i ++ rest ∧ ∀ j ∈ rest, (i : Int) ≤ j := by
  intro n
  induction n with
  | zero =>
    intro hi
    obtain rfl : i = 0 := by omega
    exact ⟨[], by simp, by simp⟩
  | succ n ih =>
    intro hi
    by_cases he : i = n + 1
    · subst he; exact ⟨[], by simp, by simp⟩
    · obtain ⟨rest, h1, h2⟩ := ih (by omega)
      refine ⟨rest ++ (if halfAt l h n = true then [(n : Int)] else []), by rw [halfP_succ, h1, List.append_assoc], fun j hj => ?_⟩
      rcases List.mem_append.1 hj with hj | hj
      · exact h2 j hj
      · split at hj
        · simp at hj; omega
        · simp at hj
/-- Is the next place told i? -/
theorem halfP_told (l : List (Option Nat)) (h : Option Nat) (n i : Nat) (hi : i < n) :
    (halfAt l h i = true → (halfP l h n)[(halfP l h i).length]? = some (i : Int)) ∧
    (halfAt l h i = false → ∀ x, (halfP l h n)[(halfP l h i).length]? = some x → x ≠ (i : Int)) := by
  obtain ⟨rest, h1, h2⟩ := halfP_split l h (i + 1) n (by omega)
  rw [halfP_succ] at h1
  constructor
  · intro ha
    rw [h1, ha]
    simp
  · intro ha x hx
    rw [h1, ha] at hx
    rw [if_neg (by simp), List.append_nil, List.getElem?_append_right (Nat.le_refl _)] at hx
    have := h2 x (List.mem_of_getElem? hx)
    omega
theorem halfP_le (l : List (Option Nat)) (h : Option Nat) (n i : Nat) (hi : i ≤ n) : (halfP l h i).length ≤ (halfP l h n).length := by
  obtain ⟨rest, h1, _⟩ := halfP_split l h i n hi
  rw [h1, List.length_append]
  omega

/-! Twice, a half. -/
theorem mgn_twice {r : Nat} (h : r < 9214364837600034816) : ∃ s, s < 9218868437227405312 ∧ mgn s = 2 * mgn r := by
  by_cases h1 : r < 4503599627370496
  · refine ⟨0 * 4503599627370496 + 2 * r, by omega, ?_⟩
    rw [mgn_form 0 (2 * r) (.inl rfl) (by omega), mgn, if_pos h1]
    omega
  · refine ⟨(r / 4503599627370496 - 1 + 1) * 4503599627370496 + (4503599627370496 + r % 4503599627370496), by omega, ?_⟩
    rw [mgn_form _ _ (.inr (by omega)) (by omega), mgn, if_neg h1, Nat.pow_succ]
    rw [← Nat.mul_assoc, Nat.mul_comm]
theorem mgn_half {r : Nat} (h : 9007199254740992 ≤ r) : ∃ s, s ≤ r ∧ 2 * mgn s = mgn r := by
  refine ⟨(r / 4503599627370496 - 2) * 4503599627370496 + (4503599627370496 + r % 4503599627370496), by omega, ?_⟩
  rw [mgn_form _ _ (.inr (by omega)) (by omega), mgn, if_neg (by omega), show r / 4503599627370496 - 1 = (r / 4503599627370496 - 2) + 1 from by omega, Nat.pow_succ]
  rw [← Nat.mul_assoc, Nat.mul_comm, ← Nat.mul_assoc, Nat.mul_comm]

def two : Nat := 4611686018427387904
theorem two_val : val 4611686018427387904 = some two := by decide +kernel
theorem two_w : IsW two := by unfold IsW two; omega
theorem two_fin : IsFin two := by unfold IsFin two; omega
theorem two_mag : mag two = 2 * big 1074 := by decide +kernel
theorem two_neg : neg two = false := by decide +kernel

theorem sv_word' (b : Nat) {s : Nat} (hs : s < 9218868437227405312) (h : 2 * mag b = mgn s) : sv (wordB (false ^^ neg b) s) = 2 * sv b := by
  rw [sv_word _ (Nat.le_of_lt hs)]
  unfold sv
  unfold mag at h
  have e : (false ^^ neg b) = decide (9223372036854775808 ≤ b) := by simp [neg]
  rw [e]
  by_cases hb : 9223372036854775808 ≤ b
  · rw [if_pos (by simpa using hb), if_pos hb]; omega
  · rw [if_neg (by simpa using hb), if_neg hb]; omega
theorem sv_half' (b : Nat) {s : Nat} (hs : s < 9218868437227405312) (h : 2 * mgn s = mag b) : 2 * sv (wordB (neg b ^^ false) s) = sv b := by
  rw [sv_word _ (Nat.le_of_lt hs)]
  unfold sv
  unfold mag at h
  have e : (neg b ^^ false) = decide (9223372036854775808 ≤ b) := by simp [neg]
  rw [e]
  by_cases hb : 9223372036854775808 ≤ b
  · rw [if_pos (by simpa using hb), if_pos hb]; omega
  · rw [if_neg (by simpa using hb), if_neg hb]; omega

/-- Twice a real: exact, unless it is over. -/
theorem ftwice {b : Nat} (hw : IsW b) (hf : b % 9223372036854775808 < 9214364837600034816) :
    ∃ y, fmul (val 4611686018427387904) (val b) = some y ∧ IsW y ∧ IsFin y ∧ sv y = 2 * sv b := by
  have hfin : IsFin b := by unfold IsFin; omega
  obtain ⟨s, hs, hm⟩ := mgn_twice hf
  obtain ⟨r, hr, hn⟩ := fmul_spec two_w hw two_fin hfin
  have hrs : r = s := hn.exact (Nat.le_of_lt hs) (by rw [two_mag, hm, Nat.mul_assoc, Nat.mul_assoc, Nat.mul_comm (big 1074)]; rfl)
  subst hrs
  rw [two_val, hfin.val, hr, two_neg]
  exact ⟨_, rfl, (wordB_facts _ (Nat.le_of_lt hs)).1, fin_word _ hs, sv_word' b hs hm.symm⟩
/-- Half of a real: exact, unless it is small. -/
theorem fhalf {b : Nat} (hw : IsW b) (hfin : IsFin b) (hb : 9007199254740992 ≤ b % 9223372036854775808) :
    ∃ y, fdiv (val b) (val 4611686018427387904) = some y ∧ IsW y ∧ IsFin y ∧ 2 * sv y = sv b := by
  obtain ⟨s, hs, hm⟩ := mgn_half hb
  have hs' : s < 9218868437227405312 := Nat.lt_of_le_of_lt hs hfin
  have hb2 : mag two ≠ 0 := by
    rw [two_mag]
    have := big_pos 1074
    omega
  obtain ⟨r, hr, hn⟩ := fdiv_spec hw two_w hfin two_fin hb2
  have hrs : r = s := hn.exact (Nat.le_of_lt hs') (by rw [two_mag, ← Nat.mul_assoc, Nat.mul_comm (mgn s) 2, hm]; rfl)
  subst hrs
  rw [two_val, hfin.val, hr, two_neg]
  exact ⟨_, rfl, (wordB_facts _ (Nat.le_of_lt hs')).1, fin_word _ hs', sv_half' b hs' hm⟩

theorem flt_sv {a b : Nat} (ha : IsW a) (hb : IsW b) (hfa : IsFin a) (hfb : IsFin b) : flt (some a) (some b) = decide (sv a < sv b) := by
  rw [flt_key ha hb hfa.nan hfb.nan, decide_eq_decide, sv_lt ha hb]

/-- The greater of two finite reals. -/
theorem fmax_sv {a b : Nat} (ha : IsW a) (hb : IsW b) (hfa : IsFin a) (hfb : IsFin b) :
    ∃ m, fmax (some a) (some b) = some m ∧ IsW m ∧ IsFin m ∧ sv m = max (sv a) (sv b) := by
  have ho := order_fin ha hb hfa hfb
  have hmax : max (sv a) (sv b) = if sv a ≤ sv b then sv b else sv a := rfl
  rw [hmax]
  simp only [fmax, Option.bind_some, ho]
  by_cases h1 : sv a < sv b
  · rw [show compare (sv a) (sv b) = .lt from by simp only [compare, compareOfLessAndEq, if_pos h1]]
    exact ⟨b, rfl, hb, hfb, by rw [if_pos (Int.le_of_lt h1)]⟩
  · by_cases h2 : sv a = sv b
    · rw [show compare (sv a) (sv b) = .eq from by simp only [compare, compareOfLessAndEq, if_neg h1, if_pos h2]]
      refine ⟨_, rfl, by split <;> assumption, by split <;> assumption, ?_⟩
      rw [if_pos (show sv a ≤ sv b from Int.le_of_eq h2)]
      split
      · rfl
      · exact h2
    · rw [show compare (sv a) (sv b) = .gt from by simp only [compare, compareOfLessAndEq, if_neg h1, if_neg h2]]
      exact ⟨a, rfl, ha, hfa, by rw [if_neg (show ¬ sv a ≤ sv b by omega)]⟩

/-- The greatest of a row; and of the row twice as great. -/
theorem fold_max : ∀ (l : List Nat) (b : Nat), IsW b → IsFin b → (∀ x ∈ l, IsW x ∧ IsFin x) →
    ∃ m, (l.map val).foldl fmax (some b) = some m ∧ IsW m ∧ IsFin m ∧ sv b ≤ sv m ∧ (∀ x ∈ l, sv x ≤ sv m) ∧ (m = b ∨ True) := by
  intro l
  induction l with
  | nil => intro b hb hf _; exact ⟨b, rfl, hb, hf, Int.le_refl _, by simp, .inr trivial⟩
  | cons x l ih =>
    intro b hb hf hl
    obtain ⟨hx, hxf⟩ := hl x (by simp)
    obtain ⟨c, hc, hcw, hcf, hcs⟩ := fmax_sv hb hx hf hxf
    obtain ⟨m, hm, hmw, hmf, hm1, hm2, _⟩ := ih c hcw hcf (fun y hy => hl y (by simp [hy]))
    refine ⟨m, ?_, hmw, hmf, by omega, fun y hy => ?_, .inr trivial⟩
    · rw [List.map_cons, List.foldl_cons, hxf.val, hc]
      exact hm
    · rcases List.mem_cons.1 hy with rfl | hy
      · omega
      · exact hm2 y hy
/-- Doubling word by word. -/
def dbl (b : Nat) : Nat := (fmul (val 4611686018427387904) (val b)).getD 0
theorem fold_twice : ∀ (l : List Nat) (b b' m m' : Nat), IsW b → IsFin b → IsW b' → IsFin b' → sv b' = 2 * sv b →
    (∀ x ∈ l, IsW x ∧ IsFin x ∧ IsW (dbl x) ∧ IsFin (dbl x) ∧ sv (dbl x) = 2 * sv x) →
    (l.map val).foldl fmax (some b) = some m → ((l.map dbl).map val).foldl fmax (some b') = some m' → sv m' = 2 * sv m := by
  intro l
  induction l with
  | nil => intro b b' m m' _ _ _ _ hs _ h1 h2; cases h1; cases h2; exact hs
  | cons x l ih =>
    intro b b' m m' hb hf hb' hf' hs hl h1 h2
    obtain ⟨hx, hxf, hy, hyf, hxs⟩ := hl x (by simp)
    obtain ⟨c, hc, hcw, hcf, hcs⟩ := fmax_sv hb hx hf hxf
    obtain ⟨c', hc', hcw', hcf', hcs'⟩ := fmax_sv hb' hy hf' hyf
    refine ih c c' m m' hcw hcf hcw' hcf' (by omega) (fun z hz => hl z (by simp [hz])) ?_ ?_
    · rw [List.map_cons, List.foldl_cons, hxf.val, hc] at h1
      exact h1
    · rw [List.map_cons, List.map_cons, List.foldl_cons, hyf.val, hc'] at h2
      exact h2

theorem half_fine {l : List Nat} (hw : ∀ b ∈ l, IsW b) (h : halfE (l.map val) = 0) : (∀ b ∈ l, IsFin b ∧ 0 ≤ sv b) ∧ l.length ≤ 4096 := by
  unfold halfE at h
  split at h
  · cases h
  · rename_i hlen
    split at h
    · rename_i hall
      split at h
      · cases h
      · rename_i hany
        refine ⟨fun b hb => ?_, by simpa using hlen⟩
        have hfb := fin_val (hw b hb) (List.all_eq_true.1 hall (val b) (List.mem_map.2 ⟨b, hb, rfl⟩))
        refine ⟨hfb, ?_⟩
        have hng : ¬ flt (val b) (val 0) = true := fun hc => hany (List.any_eq_true.2 ⟨_, List.mem_map.2 ⟨b, hb, rfl⟩, hc⟩)
        rw [hfb.val, show val 0 = some 0 from by decide +kernel, flt_sv (hw b hb) isW_0 hfb (by unfold IsFin; omega), show sv 0 = 0 from by decide +kernel] at hng
        simpa using hng
    · cases h

theorem half_ok {l : List Nat} (hw : ∀ b ∈ l, IsW b ∧ IsFin b ∧ 0 ≤ sv b) (hn : l.length ≤ 4096) : halfE (l.map val) = 0 := by
  unfold halfE
  rw [if_neg (by rw [List.length_map]; omega), if_pos, if_neg]
  · intro hc
    obtain ⟨y, hy, hlt⟩ := List.any_eq_true.1 hc
    obtain ⟨b, hb, rfl⟩ := List.mem_map.1 hy
    obtain ⟨h1, h2, h3⟩ := hw b hb
    rw [h2.val, show val 0 = some 0 from by decide +kernel, flt_sv h1 isW_0 h2 (by unfold IsFin; omega), show sv 0 = 0 from by decide +kernel] at hlt
    simp at hlt
    omega
  · rw [List.all_eq_true]
    intro y hy
    obtain ⟨b, hb, rfl⟩ := List.mem_map.1 hy
    exact val_fin (hw b hb).1 (hw b hb).2.1

/-- TWICE AS GREAT TELLS THE SAME. -/
theorem half_twice {l : List Nat} (hw : ∀ b ∈ l, IsW b) (h0 : halfE (l.map val) = 0)
    (hlo : fle (val 103582791429521408) (halfM (l.map val)) = true) (hhi : fle (halfM (l.map val)) (val 9214364837600034815) = true) :
    halfE (l.map fun x => fmul (val 4611686018427387904) (val x)) = 0 ∧ halfL (l.map fun x => fmul (val 4611686018427387904) (val x)) = halfL (l.map val) := by
  obtain ⟨hfine, hlen⟩ := half_fine hw h0
  have h00 : val 0 = some 0 := by decide +kernel
  have hf0 : IsFin 0 := by unfold IsFin; omega
  obtain ⟨m, hm, hmw, hmf, hm0, hmx, _⟩ := fold_max l 0 isW_0 hf0 (fun x hx => ⟨hw x hx, (hfine x hx).1⟩)
  have hM : halfM (l.map val) = some m := by unfold halfM; rw [h00]; exact hm
  have hl1 : val 103582791429521408 = some 103582791429521408 := by decide +kernel
  have hl2 : val 9214364837600034815 = some 9214364837600034815 := by decide +kernel
  rw [hM, hl1, fle_key (by unfold IsW; omega) hmw (by decide +kernel) hmf.nan, show key 103582791429521408 = 103582791429521408 from by decide +kernel, decide_eq_true_eq] at hlo
  rw [hM, hl2, fle_key hmw (by unfold IsW; omega) hmf.nan (by decide +kernel), show key 9214364837600034815 = 9214364837600034815 from by decide +kernel, decide_eq_true_eq] at hhi
  have hmp : m < 9223372036854775808 := by
    unfold key at hlo
    split at hlo
    · assumption
    · unfold IsW at hmw; omega
  have hk : key m = (m : Int) := by unfold key; rw [if_pos hmp]
  rw [hk] at hlo hhi
  have hsvm : sv m = (mgn m : Int) := by
    unfold sv
    rw [if_neg (by omega), Nat.mod_eq_of_lt hmp]
  have hdbl : ∀ x ∈ l, ∃ y, fmul (val 4611686018427387904) (val x) = some y ∧ IsW y ∧ IsFin y ∧ sv y = 2 * sv x := by
    intro x hx
    obtain ⟨hxf, hx0⟩ := hfine x hx
    have hxm := hmx x hx
    refine ftwice (hw x hx) ?_
    rw [hsvm] at hxm
    have : mgn (x % 9223372036854775808) ≤ mgn m := by
      unfold sv at hxm hx0
      split at hxm
      · rename_i hneg
        rw [if_pos hneg] at hx0
        omega
      · omega
    have := mgn_le_iff.1 this
    omega
  have hd : ∀ x ∈ l, fmul (val 4611686018427387904) (val x) = some (dbl x) ∧ IsW (dbl x) ∧ IsFin (dbl x) ∧ sv (dbl x) = 2 * sv x := by
    intro x hx
    obtain ⟨y, hy, h1, h2, h3⟩ := hdbl x hx
    have e : dbl x = y := by unfold dbl; rw [hy]; rfl
    rw [e]
    exact ⟨hy, h1, h2, h3⟩
  have hmap : (l.map fun x => fmul (val 4611686018427387904) (val x)) = (l.map dbl).map val := by
    rw [List.map_map]
    refine List.map_congr_left fun x hx => ?_
    show _ = val (dbl x)
    rw [(hd x hx).1, (hd x hx).2.2.1.val]
  rw [hmap]
  have hdw : ∀ b ∈ l.map dbl, IsW b ∧ IsFin b ∧ 0 ≤ sv b := by
    intro b hb
    obtain ⟨x, hx, rfl⟩ := List.mem_map.1 hb
    obtain ⟨_, h1, h2, h3⟩ := hd x hx
    have := (hfine x hx).2
    exact ⟨h1, h2, by omega⟩
  have hE2 := half_ok hdw (by rw [List.length_map]; exact hlen)
  refine ⟨hE2, ?_⟩
  obtain ⟨m', hm', hmw', hmf', _, _, _⟩ := fold_max (l.map dbl) 0 isW_0 hf0 (fun x hx => ⟨(hdw x hx).1, (hdw x hx).2.1⟩)
  have hM' : halfM ((l.map dbl).map val) = some m' := by unfold halfM; rw [h00]; exact hm'
  have hmm : sv m' = 2 * sv m := fold_twice l 0 0 m m' isW_0 hf0 isW_0 hf0 (by decide +kernel) (fun x hx => ⟨hw x hx, (hfine x hx).1, (hd x hx).2.1, (hd x hx).2.2.1, (hd x hx).2.2.2⟩) hm hm'
  have hpos : 0 < sv m' := by
    rw [hmm, hsvm]
    have h1 : mgn 0 < mgn m := mgn_lt (by omega)
    rw [mgn_zero] at h1
    omega
  have hmp' : m' < 9223372036854775808 := by
    unfold sv at hpos
    split at hpos <;> omega
  have hsvm' : sv m' = (mgn m' : Int) := by
    unfold sv
    rw [if_neg (by omega), Nat.mod_eq_of_lt hmp']
  have hlarge : m ≤ m' := mgn_le_iff.1 (by omega)
  obtain ⟨q, hq, hqw, hqf, hqs⟩ := fhalf hmw hmf (by omega)
  obtain ⟨q', hq', hqw', hqf', hqs'⟩ := fhalf hmw' hmf' (by omega)
  unfold halfL
  rw [if_pos hE2, if_pos h0, hM, hM']
  rw [hmf.val] at hq
  rw [hmf'.val] at hq'
  rw [hq, hq', List.length_map, List.length_map, List.length_map]
  unfold halfP
  have hfl : ∀ i, flt (((l.map dbl).map val).getD i none) (some q') = flt ((l.map val).getD i none) (some q) := by
    intro i
    by_cases hi : i < l.length
    · have hx : l[i] ∈ l := List.getElem_mem hi
      obtain ⟨_, h1, h2, h3⟩ := hd _ hx
      have e1 : ((l.map dbl).map val).getD i none = some (dbl l[i]) := by
        simp [hi, h2.val]
      have e2 : (l.map val).getD i none = some l[i] := by
        simp [hi, (hfine _ hx).1.val]
      rw [e1, e2, flt_sv h1 hqw' h2 hqf', flt_sv (hw _ hx) hqw (hfine _ hx).1 hqf, decide_eq_decide]
      omega
    · have e1 : ((l.map dbl).map val).getD i none = none := by simp [Nat.le_of_not_lt hi]
      have e2 : (l.map val).getD i none = none := by simp [Nat.le_of_not_lt hi]
      rw [e1, e2]
      rfl
  congr 1
  refine List.filter_congr fun i _ => ?_
  unfold halfAt
  rw [hfl, hfl]
end Go.Proofs.Ytnedjhoefmmelaa
