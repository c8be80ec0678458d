/- GainHalves: the walk: the statement's function returns true and leaves what was there. Condition: the length as the reach has it. -/
import Derived.Test.YtnedjhoefmmelaaLives
namespace Go.Proofs.Ytnedjhoefmmelaa
open Go.RowKit

theorem decide_same {α : Type} [DecidableEq α] (xs : List α) : decide (xs = xs) = true := by simp

set_option maxRecDepth 100000 in
set_option maxHeartbeats 1000000 in
theorem halves_walk (l : List Nat) (v0 : Value) (w : World) (hn : l.length * 8 ≤ 140737488351232) (hw : ∀ b ∈ l, IsW b) (hs : Sl w v0 (l.map U)) :
    Calls Try.prog 3 #[v0] w fun e w' => e = .returned (.bool true) ∧ Below w.heap.size w w' := by
  have hc : (halfL (l.map val)).length ≤ 4096 := by
    unfold halfL
    split
    · rename_i h
      have h1 := halfP_length (l.map val) (fdiv (halfM (l.map val)) (val 4611686018427387904)) (l.map val).length
      have h2 : (l.map val).length ≤ 4096 := by
        unfold halfE at h
        split at h
        · cases h
        · omega
      omega
    · simp
  have HW := hid hw
  have HC := hid hc
  clear hw hc
  go_enter Try.func3, Try.ntmps3
  go_wp2_with fail
  refine (Floats_any l _ _ hn hs).mono ?_
  rintro e w1 ⟨v1, rfl, hown1, hb1⟩
  have s1 := hid (Sl.of_owns hown1)
  clear hown1 hs
  go_wp2_with fail
  refine (LentReals_any l _ _ (by omega) s1.out).mono ?_
  rintro e w2 ⟨v2, rfl, hown2, hb2⟩
  have s12 := hid (s1.out.below hb2)
  obtain ⟨a2, c2, e2, hr2, hn2, hl2⟩ := Sl.of_owns hown2
  have b2 := hid (hb1.trans (hb2.mono hb1.size))
  clear hown2 hb1 hb2
  obtain ⟨a1, c1, e1, hr1, hn1, hl1⟩ := s12.out
  subst e1 e2
  simp only [List.length_map, lent_length] at hl1 hl2 ⊢
  have t2 : Sl w2 (.slice a2 l.length c2) (l.map F) := by
    refine ⟨a2, c2, by rw [List.length_map], ?_, hn2, by rw [List.length_map]; omega⟩
    have h := hr2.take l.length
    rwa [← List.map_take, show (lent l).take l.length = l from by simp [lent]] at h
  have f2 : Sl w2 (.slice a2 (l.length + 6) c2) ((lent l).map F) := ⟨a2, c2, by rw [List.length_map, lent_length], hr2, hn2, by rw [List.length_map, lent_length]; omega⟩
  have T2 := hid t2
  have F2 := hid f2
  clear t2 f2 hr1 hr2 s1 hn1 hn2
  go_wp2_with fail
  refine (Half_any l _ _ (by omega) HW.out T2.out).mono ?_
  rintro e w3 ⟨v3, rfl, hown3, hb3⟩
  have s3 := hid (Sl.of_owns hown3)
  have s13 := hid (s12.out.below hb3)
  have f3 := hid (F2.out.below hb3)
  have b3 := hid (b2.out.trans (hb3.mono b2.out.size))
  clear hown3 hb3 b2 s12 F2 T2
  go_wp2_with fail
  refine (rHalf_any l _ _ (by omega) HW.out (by have h := s13.out; rwa [List.length_map] at h)).mono ?_
  rintro e w4 ⟨v4, rfl, hown4, hb4⟩
  have s4 := hid (Sl.of_owns hown4)
  have s34 := hid (s3.out.below hb4)
  have s14 := hid (s13.out.below hb4)
  have f4 := hid (f3.out.below hb4)
  have b4 := hid (b3.out.trans (hb4.mono b3.out.size))
  clear hown4 hb4 b3 s13 s3 f3
  go_wp2_with fail
  refine (lives_any _).mono ?_
  rintro e w5 ⟨rfl, hb5⟩
  have s45 := hid (s4.out.below hb5)
  have s35 := hid (s34.out.below hb5)
  have s15 := hid (s14.out.below hb5)
  have f5 := hid (f4.out.below hb5)
  have b5 := hid (b4.out.trans (hb5.mono b4.out.size))
  clear hb5 b4 s14 s34 s4 f4
  go_wp2_with fail
  refine (SameInts_any (halfL (l.map val)) (halfL (l.map val)) _ _ _ (by have := HC.out; omega) (by have := HC.out; omega) s35.out s45.out).mono ?_
  rintro e w6 ⟨rfl, n6, rfl⟩
  rw [decide_same]
  go_wp2_with fail
  refine (KeptReals_any (lent l) l _ _ _ (by rw [lent_length]; omega) (by omega) (by exact f5.out.drewN n6) (by have h := s15.out.drewN n6; rwa [List.length_map] at h)).mono ?_
  rintro e w7 ⟨rfl, hb7⟩
  rw [sameL_self]
  go_wp2_with fail
  go_ret
  exact ⟨rfl, (below_drewN' b5.out n6).trans (hb7.mono b5.out.size)⟩
end Go.Proofs.Ytnedjhoefmmelaa
