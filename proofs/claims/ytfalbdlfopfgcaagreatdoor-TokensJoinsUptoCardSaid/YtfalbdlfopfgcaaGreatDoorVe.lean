/- gridworkref05's Prefix, digit, step: walks. No condition. -/
import Derived.Test.YtfalbdlfopfgcaaGreatDoorVc
namespace Go.Proofs.YtfalbdlfopfgcaaGreatDoor
open Go.RowKit

theorem digit_any (c : Nat) (w : World) : Calls Tryz.prog 104 #[.int .u8 c] w fun e w' => e = .returned (.bool (digB c)) ∧ w' = w := by
  by_cases h1 : 48 ≤ c
  · by_cases h2 : c ≤ 57
    · have hd : Hid (digB c = true) := hid (by unfold digB; simp [h1, h2])
      have e1 : (48 : Int) ≤ (c : Int) := by omega
      have e2 : (c : Int) ≤ 57 := by omega
      clear h1 h2
      go_enter Tryz.func104, Tryz.ntmps104
      go_wp2
      go_ret
      exact ⟨by rw [hd.out]; rfl, rfl⟩
    · have hd : Hid (digB c = false) := hid (by unfold digB; simp [h1, h2])
      have e1 : (48 : Int) ≤ (c : Int) := by omega
      have e2 : ¬ (c : Int) ≤ 57 := by omega
      clear h1 h2
      go_enter Tryz.func104, Tryz.ntmps104
      go_wp2
      go_ret
      exact ⟨by rw [hd.out]; rfl, rfl⟩
  · have hd : Hid (digB c = false) := hid (by unfold digB; simp [h1])
    have e1 : ¬ (48 : Int) ≤ (c : Int) := by omega
    clear h1
    go_enter Tryz.func104, Tryz.ntmps104
    go_wp2
    go_ret
    exact ⟨by rw [hd.out]; rfl, rfl⟩
def pfxR : List Nat := [102, 112, 110, 117, 109, 107, 77, 71, 84]
set_option maxRecDepth 100000 in
set_option maxHeartbeats 4000000 in
theorem rPrefix_any (c : Nat) (w : World) : Calls Tryz.prog 106 #[.int .u8 c] w fun e w' => e = .returned (.tuple #[.int .i64 ((pfxK c).getD 0), .bool (pfxK c).isSome]) ∧ Below w.heap.size w w' := by
  go_enter Tryz.func106, Tryz.ntmps106
  go_wp2
  have hb1 : Below w.heap.size w (w.alloc (.cells #[.int .i64 (-15), .int .i64 (-12), .int .i64 (-9), .int .i64 (-6), .int .i64 (-3), .int .i64 3, .int .i64 6, .int .i64 9, .int .i64 12] 3)) := (Below.refl _ w).alloc (Nat.le_refl _) _
  have hcl : ∀ k v, (#[.int .i64 (-15), .int .i64 (-12), .int .i64 (-9), .int .i64 (-6), .int .i64 (-3), .int .i64 3, .int .i64 6, .int .i64 9, .int .i64 12] : Array Value)[k]? = some v → (w.alloc (.cells #[.int .i64 (-15), .int .i64 (-12), .int .i64 (-9), .int .i64 (-6), .int .i64 (-3), .int .i64 3, .int .i64 6, .int .i64 9, .int .i64 12] 3)).cell? ⟨w.heap.size, k, none⟩ = some v := fun k v h => by
    simp only [World.cell?, World.alloc, Array.getElem?_push_size]
    exact h
  obtain ⟨w1, hw1⟩ : ∃ w1, w1 = w.alloc (.cells #[.int .i64 (-15), .int .i64 (-12), .int .i64 (-9), .int .i64 (-6), .int .i64 (-3), .int .i64 3, .int .i64 6, .int .i64 9, .int .i64 12] 3) := ⟨_, rfl⟩
  rw [← hw1] at hb1 hcl ⊢
  clear hw1
  have c0 := hcl 0 _ rfl
  have c1 := hcl 1 _ rfl
  have c2 := hcl 2 _ rfl
  have c3 := hcl 3 _ rfl
  have c4 := hcl 4 _ rfl
  have c5 := hcl 5 _ rfl
  have c6 := hcl 6 _ rfl
  have c7 := hcl 7 _ rfl
  have c8 := hcl 8 _ rfl
  clear hcl
  have g0 : ((ByteArray.mk #[102, 112, 110, 117, 109, 107, 77, 71, 84])[0]'(by decide)).toNat = 102 := by decide +kernel
  have g1 : ((ByteArray.mk #[102, 112, 110, 117, 109, 107, 77, 71, 84])[1]'(by decide)).toNat = 112 := by decide +kernel
  have g2 : ((ByteArray.mk #[102, 112, 110, 117, 109, 107, 77, 71, 84])[2]'(by decide)).toNat = 110 := by decide +kernel
  have g3 : ((ByteArray.mk #[102, 112, 110, 117, 109, 107, 77, 71, 84])[3]'(by decide)).toNat = 117 := by decide +kernel
  have g4 : ((ByteArray.mk #[102, 112, 110, 117, 109, 107, 77, 71, 84])[4]'(by decide)).toNat = 109 := by decide +kernel
  have g5 : ((ByteArray.mk #[102, 112, 110, 117, 109, 107, 77, 71, 84])[5]'(by decide)).toNat = 107 := by decide +kernel
  have g6 : ((ByteArray.mk #[102, 112, 110, 117, 109, 107, 77, 71, 84])[6]'(by decide)).toNat = 77 := by decide +kernel
  have g7 : ((ByteArray.mk #[102, 112, 110, 117, 109, 107, 77, 71, 84])[7]'(by decide)).toNat = 71 := by decide +kernel
  have g8 : ((ByteArray.mk #[102, 112, 110, 117, 109, 107, 77, 71, 84])[8]'(by decide)).toNat = 84 := by decide +kernel
  go_loopw [6] (fun i w' => ∃ k : Nat, k ≤ 9 ∧ i = .int .i64 (k : Int) ∧ (∀ x ∈ pfxR.take k, c ≠ x) ∧ w' = w1) (fun i _ => 9 - (intOf i).toNat)
  case atStart => exact ⟨0, Nat.zero_le _, rfl, fun x h => absurd h List.not_mem_nil, rfl⟩
  case round =>
    obtain ⟨k, hk, rfl, hne, rfl⟩ := hrel
    by_cases hk9 : k = 9
    · subst hk9
      have hn : Hid (pfxK c = none) := hid (by
        have := hne
        simp [pfxR] at this
        unfold pfxK
        simp [this])
      clear hne hk
      go_wp2
      go_ret2
      exact ⟨by rw [hn.out]; rfl, hb1⟩
    · obtain ⟨m, hm⟩ : ∃ m, pfxR[k]? = some m := ⟨pfxR[k]'(by show k < 9; omega), List.getElem?_eq_getElem _⟩
      by_cases hc : c = m
      · obtain rfl | rfl | rfl | rfl | rfl | rfl | rfl | rfl | rfl := (by omega : k = 0 ∨ k = 1 ∨ k = 2 ∨ k = 3 ∨ k = 4 ∨ k = 5 ∨ k = 6 ∨ k = 7 ∨ k = 8)
        all_goals
          obtain rfl := hc.trans (Option.some.inj hm).symm
          clear hne hm hk hk9 hc
          go_wp2
          go_ret2
          exact ⟨rfl, hb1⟩
      · have hne2 : Hid (∀ x ∈ pfxR.take (k + 1), c ≠ x) := hid (by
          intro x hx
          rw [List.take_add_one, hm, List.mem_append] at hx
          rcases hx with hx | hx
          · exact hne x hx
          · simp at hx
            rw [hx]
            exact hc)
        clear hne
        obtain rfl | rfl | rfl | rfl | rfl | rfl | rfl | rfl | rfl := (by omega : k = 0 ∨ k = 1 ∨ k = 2 ∨ k = 3 ∨ k = 4 ∨ k = 5 ∨ k = 6 ∨ k = 7 ∨ k = 8)
        all_goals
          have e1 := beq_eq_false_iff_ne.2 (fun h : ((m : Nat) : Int) = (c : Int) => hc (by omega))
          obtain rfl := Option.some.inj hm
          simp only [Int.cast_ofNat_Int] at e1
          clear hm hk hk9 hc
          go_wp2
          go_roundw
          case rel => exact ⟨_, by decide, rfl, hne2.out, trivial⟩
          case measure => decide
set_option maxRecDepth 100000 in
set_option maxHeartbeats 8000000 in
theorem step_any (st n c : Nat) (hst : st ≤ 10) (w : World) : Calls Tryz.prog 103 #[.int .i64 (st : Int), .int .i64 (n : Int), .int .u8 c] w fun e w' => e = .returned (.tuple #[.int .i64 (stepV st n c : Nat), .bool (stepB st c)]) ∧ Below w.heap.size w w' := by
  have HP := hid fun w => rPrefix_any c w
  have HD := hid fun w => digit_any c w
  obtain ⟨d, hd⟩ : ∃ d, d = digB c := ⟨_, rfl⟩
  obtain ⟨p, hp⟩ : ∃ p, p = (pfxK c).isSome := ⟨_, rfl⟩
  obtain ⟨k, hk⟩ : ∃ k, k = (pfxK c).getD 0 := ⟨_, rfl⟩
  obtain ⟨V, hV⟩ : ∃ V, V = stepV st n c := ⟨_, rfl⟩
  obtain ⟨B, hB⟩ : ∃ B, B = stepB st c := ⟨_, rfl⟩
  rw [← hd] at HD
  rw [← hp, ← hk] at HP
  rw [← hV, ← hB]
  clear hk
  unfold stepV at hV
  unfold stepB at hB
  rw [← hd] at hV hB
  rw [← hp] at hB
  clear hd hp
  have b46 : c = 46 ∧ ((c : Int) == 46) = true ∨ c ≠ 46 ∧ ((c : Int) == 46) = false := by
    by_cases h : c = 46
    · exact .inl ⟨h, by rw [h]; rfl⟩
    · exact .inr ⟨h, beq_eq_false_iff_ne.2 (by omega)⟩
  have b45 : c = 45 ∧ ((c : Int) == 45) = true ∨ c ≠ 45 ∧ ((c : Int) == 45) = false := by
    by_cases h : c = 45
    · exact .inl ⟨h, by rw [h]; rfl⟩
    · exact .inr ⟨h, beq_eq_false_iff_ne.2 (by omega)⟩
  have b43 : c = 43 ∧ ((c : Int) == 43) = true ∨ c ≠ 43 ∧ ((c : Int) == 43) = false := by
    by_cases h : c = 43
    · exact .inl ⟨h, by rw [h]; rfl⟩
    · exact .inr ⟨h, beq_eq_false_iff_ne.2 (by omega)⟩
  have b101 : c = 101 ∧ ((c : Int) == 101) = true ∨ c ≠ 101 ∧ ((c : Int) == 101) = false := by
    by_cases h : c = 101
    · exact .inl ⟨h, by rw [h]; rfl⟩
    · exact .inr ⟨h, beq_eq_false_iff_ne.2 (by omega)⟩
  have b69 : c = 69 ∧ ((c : Int) == 69) = true ∨ c ≠ 69 ∧ ((c : Int) == 69) = false := by
    by_cases h : c = 69
    · exact .inl ⟨h, by rw [h]; rfl⟩
    · exact .inr ⟨h, beq_eq_false_iff_ne.2 (by omega)⟩
  have bn : n = 3 ∧ ((n : Int) == 3) = true ∨ n ≠ 3 ∧ ((n : Int) == 3) = false := by
    by_cases h : n = 3
    · exact .inl ⟨h, by rw [h]; rfl⟩
    · exact .inr ⟨h, beq_eq_false_iff_ne.2 (by omega)⟩
  obtain rfl | rfl | rfl | rfl | rfl | rfl | rfl | rfl | rfl | rfl | rfl := (by omega : st = 0 ∨ st = 1 ∨ st = 2 ∨ st = 3 ∨ st = 4 ∨ st = 5 ∨ st = 6 ∨ st = 7 ∨ st = 8 ∨ st = 9 ∨ st = 10)
  · skip
    cases d
    · rcases b46 with ⟨h1, e1⟩ | ⟨h1, e1⟩
      · rcases b45 with ⟨h2, e2⟩ | ⟨h2, e2⟩
        · omega
        · skip
          try clear b46
          try clear b45
          try clear b43
          try clear b101
          try clear b69
          try clear bn
          simp [h1] at hV hB
          have hV' := hid hV
          have hB' := hid hB
          clear hV hB hst h1 h2
          go_enter Tryz.func103, Tryz.ntmps103
          go_wp2_with (first
            | (go_at_call 106; (with_reducible refine (HP.out _).mono ?_); rintro E1 w1 ⟨rfl, hb1⟩)
            | (go_at_call 104; (with_reducible refine (HD.out _).mono ?_); rintro E2 w2 ⟨rfl, rfl⟩))
          go_ret2
          exact ⟨by rw [hV'.out, hB'.out]; rfl, hb1⟩
      · rcases b45 with ⟨h2, e2⟩ | ⟨h2, e2⟩
        · skip
          try clear b46
          try clear b45
          try clear b43
          try clear b101
          try clear b69
          try clear bn
          simp [h2] at hV hB
          have hV' := hid hV
          have hB' := hid hB
          clear hV hB hst h1 h2
          go_enter Tryz.func103, Tryz.ntmps103
          go_wp2_with (first
            | (go_at_call 106; (with_reducible refine (HP.out _).mono ?_); rintro E1 w1 ⟨rfl, hb1⟩)
            | (go_at_call 104; (with_reducible refine (HD.out _).mono ?_); rintro E2 w2 ⟨rfl, rfl⟩))
          go_ret2
          exact ⟨by rw [hV'.out, hB'.out]; rfl, hb1⟩
        · skip
          try clear b46
          try clear b45
          try clear b43
          try clear b101
          try clear b69
          try clear bn
          simp [h1, h2] at hV hB
          have hV' := hid hV
          have hB' := hid hB
          clear hV hB hst h1 h2
          go_enter Tryz.func103, Tryz.ntmps103
          go_wp2_with (first
            | (go_at_call 106; (with_reducible refine (HP.out _).mono ?_); rintro E1 w1 ⟨rfl, hb1⟩)
            | (go_at_call 104; (with_reducible refine (HD.out _).mono ?_); rintro E2 w2 ⟨rfl, rfl⟩))
          go_ret2
          exact ⟨by rw [hV'.out, hB'.out]; rfl, hb1⟩
    · skip
      try clear b46
      try clear b45
      try clear b43
      try clear b101
      try clear b69
      try clear bn
      simp [] at hV hB
      have hV' := hid hV
      have hB' := hid hB
      clear hV hB hst
      go_enter Tryz.func103, Tryz.ntmps103
      go_wp2_with (first
        | (go_at_call 106; (with_reducible refine (HP.out _).mono ?_); rintro E1 w1 ⟨rfl, hb1⟩)
        | (go_at_call 104; (with_reducible refine (HD.out _).mono ?_); rintro E2 w2 ⟨rfl, rfl⟩))
      go_ret2
      exact ⟨by rw [hV'.out, hB'.out]; rfl, hb1⟩
  · skip
    cases d
    · rcases b46 with ⟨h1, e1⟩ | ⟨h1, e1⟩
      · rcases b45 with ⟨h2, e2⟩ | ⟨h2, e2⟩
        · omega
        · skip
          try clear b46
          try clear b45
          try clear b43
          try clear b101
          try clear b69
          try clear bn
          simp [h1] at hV hB
          have hV' := hid hV
          have hB' := hid hB
          clear hV hB hst h1 h2
          go_enter Tryz.func103, Tryz.ntmps103
          go_wp2_with (first
            | (go_at_call 106; (with_reducible refine (HP.out _).mono ?_); rintro E1 w1 ⟨rfl, hb1⟩)
            | (go_at_call 104; (with_reducible refine (HD.out _).mono ?_); rintro E2 w2 ⟨rfl, rfl⟩))
          go_ret2
          exact ⟨by rw [hV'.out, hB'.out]; rfl, hb1⟩
      · rcases b45 with ⟨h2, e2⟩ | ⟨h2, e2⟩
        · skip
          try clear b46
          try clear b45
          try clear b43
          try clear b101
          try clear b69
          try clear bn
          simp [h2] at hV hB
          have hV' := hid hV
          have hB' := hid hB
          clear hV hB hst h1 h2
          go_enter Tryz.func103, Tryz.ntmps103
          go_wp2_with (first
            | (go_at_call 106; (with_reducible refine (HP.out _).mono ?_); rintro E1 w1 ⟨rfl, hb1⟩)
            | (go_at_call 104; (with_reducible refine (HD.out _).mono ?_); rintro E2 w2 ⟨rfl, rfl⟩))
          go_ret2
          exact ⟨by rw [hV'.out, hB'.out]; rfl, hb1⟩
        · skip
          try clear b46
          try clear b45
          try clear b43
          try clear b101
          try clear b69
          try clear bn
          simp [h1, h2] at hV hB
          have hV' := hid hV
          have hB' := hid hB
          clear hV hB hst h1 h2
          go_enter Tryz.func103, Tryz.ntmps103
          go_wp2_with (first
            | (go_at_call 106; (with_reducible refine (HP.out _).mono ?_); rintro E1 w1 ⟨rfl, hb1⟩)
            | (go_at_call 104; (with_reducible refine (HD.out _).mono ?_); rintro E2 w2 ⟨rfl, rfl⟩))
          go_ret2
          exact ⟨by rw [hV'.out, hB'.out]; rfl, hb1⟩
    · skip
      try clear b46
      try clear b45
      try clear b43
      try clear b101
      try clear b69
      try clear bn
      simp [] at hV hB
      have hV' := hid hV
      have hB' := hid hB
      clear hV hB hst
      go_enter Tryz.func103, Tryz.ntmps103
      go_wp2_with (first
        | (go_at_call 106; (with_reducible refine (HP.out _).mono ?_); rintro E1 w1 ⟨rfl, hb1⟩)
        | (go_at_call 104; (with_reducible refine (HD.out _).mono ?_); rintro E2 w2 ⟨rfl, rfl⟩))
      go_ret2
      exact ⟨by rw [hV'.out, hB'.out]; rfl, hb1⟩
  · skip
    cases d
    · rcases b46 with ⟨h1, e1⟩ | ⟨h1, e1⟩
      · skip
        have e2 : ((c : Int) == 101) = false := beq_eq_false_iff_ne.2 (by omega)
        have e3 : ((c : Int) == 69) = false := beq_eq_false_iff_ne.2 (by omega)
        try clear b46
        try clear b45
        try clear b43
        try clear b101
        try clear b69
        try clear bn
        simp [h1] at hV hB
        have hV' := hid hV
        have hB' := hid hB
        clear hV hB hst h1
        go_enter Tryz.func103, Tryz.ntmps103
        go_wp2_with (first
          | (go_at_call 106; (with_reducible refine (HP.out _).mono ?_); rintro E1 w1 ⟨rfl, hb1⟩)
          | (go_at_call 104; (with_reducible refine (HD.out _).mono ?_); rintro E2 w2 ⟨rfl, rfl⟩))
        go_ret2
        exact ⟨by rw [hV'.out, hB'.out]; rfl, hb1⟩
      · rcases b101 with ⟨h2, e2⟩ | ⟨h2, e2⟩
        · skip
          try clear b46
          try clear b45
          try clear b43
          try clear b101
          try clear b69
          try clear bn
          simp [h2] at hV hB
          have hV' := hid hV
          have hB' := hid hB
          clear hV hB hst h1 h2
          go_enter Tryz.func103, Tryz.ntmps103
          go_wp2_with (first
            | (go_at_call 106; (with_reducible refine (HP.out _).mono ?_); rintro E1 w1 ⟨rfl, hb1⟩)
            | (go_at_call 104; (with_reducible refine (HD.out _).mono ?_); rintro E2 w2 ⟨rfl, rfl⟩))
          go_ret2
          exact ⟨by rw [hV'.out, hB'.out]; rfl, hb1⟩
        · rcases b69 with ⟨h3, e3⟩ | ⟨h3, e3⟩
          · skip
            try clear b46
            try clear b45
            try clear b43
            try clear b101
            try clear b69
            try clear bn
            simp [h3] at hV hB
            have hV' := hid hV
            have hB' := hid hB
            clear hV hB hst h1 h2 h3
            go_enter Tryz.func103, Tryz.ntmps103
            go_wp2_with (first
              | (go_at_call 106; (with_reducible refine (HP.out _).mono ?_); rintro E1 w1 ⟨rfl, hb1⟩)
              | (go_at_call 104; (with_reducible refine (HD.out _).mono ?_); rintro E2 w2 ⟨rfl, rfl⟩))
            go_ret2
            exact ⟨by rw [hV'.out, hB'.out]; rfl, hb1⟩
          · skip
            try clear b46
            try clear b45
            try clear b43
            try clear b101
            try clear b69
            try clear bn
            simp [h1, h2, h3] at hV hB
            have hV' := hid hV
            have hB' := hid hB
            clear hV hB hst h1 h2 h3
            go_enter Tryz.func103, Tryz.ntmps103
            go_wp2_with (first
              | (go_at_call 106; (with_reducible refine (HP.out _).mono ?_); rintro E1 w1 ⟨rfl, hb1⟩)
              | (go_at_call 104; (with_reducible refine (HD.out _).mono ?_); rintro E2 w2 ⟨rfl, rfl⟩))
            go_ret2
            exact ⟨by rw [hV'.out, hB'.out]; rfl, hb1⟩
    · skip
      try clear b46
      try clear b45
      try clear b43
      try clear b101
      try clear b69
      try clear bn
      simp [] at hV hB
      have hV' := hid hV
      have hB' := hid hB
      clear hV hB hst
      go_enter Tryz.func103, Tryz.ntmps103
      go_wp2_with (first
        | (go_at_call 106; (with_reducible refine (HP.out _).mono ?_); rintro E1 w1 ⟨rfl, hb1⟩)
        | (go_at_call 104; (with_reducible refine (HD.out _).mono ?_); rintro E2 w2 ⟨rfl, rfl⟩))
      go_ret2
      exact ⟨by rw [hV'.out, hB'.out]; rfl, hb1⟩
  · skip
    try clear b46
    try clear b45
    try clear b43
    try clear b101
    try clear b69
    try clear bn
    simp [] at hV hB
    have hV' := hid hV
    have hB' := hid hB
    clear hV hB hst
    go_enter Tryz.func103, Tryz.ntmps103
    go_wp2_with (first
      | (go_at_call 106; (with_reducible refine (HP.out _).mono ?_); rintro E1 w1 ⟨rfl, hb1⟩)
      | (go_at_call 104; (with_reducible refine (HD.out _).mono ?_); rintro E2 w2 ⟨rfl, rfl⟩))
    go_ret2
    exact ⟨by rw [hV'.out, hB'.out]; rfl, hb1⟩
  · skip
    cases d
    · rcases b46 with ⟨h1, e1⟩ | ⟨h1, e1⟩
      · skip
        have e2 : ((c : Int) == 101) = false := beq_eq_false_iff_ne.2 (by omega)
        have e3 : ((c : Int) == 69) = false := beq_eq_false_iff_ne.2 (by omega)
        try clear b46
        try clear b45
        try clear b43
        try clear b101
        try clear b69
        try clear bn
        simp [h1] at hV hB
        have hV' := hid hV
        have hB' := hid hB
        clear hV hB hst h1
        go_enter Tryz.func103, Tryz.ntmps103
        go_wp2_with (first
          | (go_at_call 106; (with_reducible refine (HP.out _).mono ?_); rintro E1 w1 ⟨rfl, hb1⟩)
          | (go_at_call 104; (with_reducible refine (HD.out _).mono ?_); rintro E2 w2 ⟨rfl, rfl⟩))
        go_ret2
        exact ⟨by rw [hV'.out, hB'.out]; rfl, hb1⟩
      · rcases b101 with ⟨h2, e2⟩ | ⟨h2, e2⟩
        · skip
          try clear b46
          try clear b45
          try clear b43
          try clear b101
          try clear b69
          try clear bn
          simp [h2] at hV hB
          have hV' := hid hV
          have hB' := hid hB
          clear hV hB hst h1 h2
          go_enter Tryz.func103, Tryz.ntmps103
          go_wp2_with (first
            | (go_at_call 106; (with_reducible refine (HP.out _).mono ?_); rintro E1 w1 ⟨rfl, hb1⟩)
            | (go_at_call 104; (with_reducible refine (HD.out _).mono ?_); rintro E2 w2 ⟨rfl, rfl⟩))
          go_ret2
          exact ⟨by rw [hV'.out, hB'.out]; rfl, hb1⟩
        · rcases b69 with ⟨h3, e3⟩ | ⟨h3, e3⟩
          · skip
            try clear b46
            try clear b45
            try clear b43
            try clear b101
            try clear b69
            try clear bn
            simp [h3] at hV hB
            have hV' := hid hV
            have hB' := hid hB
            clear hV hB hst h1 h2 h3
            go_enter Tryz.func103, Tryz.ntmps103
            go_wp2_with (first
              | (go_at_call 106; (with_reducible refine (HP.out _).mono ?_); rintro E1 w1 ⟨rfl, hb1⟩)
              | (go_at_call 104; (with_reducible refine (HD.out _).mono ?_); rintro E2 w2 ⟨rfl, rfl⟩))
            go_ret2
            exact ⟨by rw [hV'.out, hB'.out]; rfl, hb1⟩
          · skip
            try clear b46
            try clear b45
            try clear b43
            try clear b101
            try clear b69
            try clear bn
            simp [h1, h2, h3] at hV hB
            have hV' := hid hV
            have hB' := hid hB
            clear hV hB hst h1 h2 h3
            go_enter Tryz.func103, Tryz.ntmps103
            go_wp2_with (first
              | (go_at_call 106; (with_reducible refine (HP.out _).mono ?_); rintro E1 w1 ⟨rfl, hb1⟩)
              | (go_at_call 104; (with_reducible refine (HD.out _).mono ?_); rintro E2 w2 ⟨rfl, rfl⟩))
            go_ret2
            exact ⟨by rw [hV'.out, hB'.out]; rfl, hb1⟩
    · skip
      try clear b46
      try clear b45
      try clear b43
      try clear b101
      try clear b69
      try clear bn
      simp [] at hV hB
      have hV' := hid hV
      have hB' := hid hB
      clear hV hB hst
      go_enter Tryz.func103, Tryz.ntmps103
      go_wp2_with (first
        | (go_at_call 106; (with_reducible refine (HP.out _).mono ?_); rintro E1 w1 ⟨rfl, hb1⟩)
        | (go_at_call 104; (with_reducible refine (HD.out _).mono ?_); rintro E2 w2 ⟨rfl, rfl⟩))
      go_ret2
      exact ⟨by rw [hV'.out, hB'.out]; rfl, hb1⟩
  · skip
    cases d
    · rcases b46 with ⟨h1, e1⟩ | ⟨h1, e1⟩
      · skip
        have e2 : ((c : Int) == 101) = false := beq_eq_false_iff_ne.2 (by omega)
        have e3 : ((c : Int) == 69) = false := beq_eq_false_iff_ne.2 (by omega)
        try clear b46
        try clear b45
        try clear b43
        try clear b101
        try clear b69
        try clear bn
        simp [h1] at hV hB
        have hV' := hid hV
        have hB' := hid hB
        clear hV hB hst h1
        go_enter Tryz.func103, Tryz.ntmps103
        go_wp2_with (first
          | (go_at_call 106; (with_reducible refine (HP.out _).mono ?_); rintro E1 w1 ⟨rfl, hb1⟩)
          | (go_at_call 104; (with_reducible refine (HD.out _).mono ?_); rintro E2 w2 ⟨rfl, rfl⟩))
        go_ret2
        exact ⟨by rw [hV'.out, hB'.out]; rfl, hb1⟩
      · rcases b101 with ⟨h2, e2⟩ | ⟨h2, e2⟩
        · skip
          try clear b46
          try clear b45
          try clear b43
          try clear b101
          try clear b69
          try clear bn
          simp [h2] at hV hB
          have hV' := hid hV
          have hB' := hid hB
          clear hV hB hst h1 h2
          go_enter Tryz.func103, Tryz.ntmps103
          go_wp2_with (first
            | (go_at_call 106; (with_reducible refine (HP.out _).mono ?_); rintro E1 w1 ⟨rfl, hb1⟩)
            | (go_at_call 104; (with_reducible refine (HD.out _).mono ?_); rintro E2 w2 ⟨rfl, rfl⟩))
          go_ret2
          exact ⟨by rw [hV'.out, hB'.out]; rfl, hb1⟩
        · rcases b69 with ⟨h3, e3⟩ | ⟨h3, e3⟩
          · skip
            try clear b46
            try clear b45
            try clear b43
            try clear b101
            try clear b69
            try clear bn
            simp [h3] at hV hB
            have hV' := hid hV
            have hB' := hid hB
            clear hV hB hst h1 h2 h3
            go_enter Tryz.func103, Tryz.ntmps103
            go_wp2_with (first
              | (go_at_call 106; (with_reducible refine (HP.out _).mono ?_); rintro E1 w1 ⟨rfl, hb1⟩)
              | (go_at_call 104; (with_reducible refine (HD.out _).mono ?_); rintro E2 w2 ⟨rfl, rfl⟩))
            go_ret2
            exact ⟨by rw [hV'.out, hB'.out]; rfl, hb1⟩
          · skip
            try clear b46
            try clear b45
            try clear b43
            try clear b101
            try clear b69
            try clear bn
            simp [h1, h2, h3] at hV hB
            have hV' := hid hV
            have hB' := hid hB
            clear hV hB hst h1 h2 h3
            go_enter Tryz.func103, Tryz.ntmps103
            go_wp2_with (first
              | (go_at_call 106; (with_reducible refine (HP.out _).mono ?_); rintro E1 w1 ⟨rfl, hb1⟩)
              | (go_at_call 104; (with_reducible refine (HD.out _).mono ?_); rintro E2 w2 ⟨rfl, rfl⟩))
            go_ret2
            exact ⟨by rw [hV'.out, hB'.out]; rfl, hb1⟩
    · skip
      try clear b46
      try clear b45
      try clear b43
      try clear b101
      try clear b69
      try clear bn
      simp [] at hV hB
      have hV' := hid hV
      have hB' := hid hB
      clear hV hB hst
      go_enter Tryz.func103, Tryz.ntmps103
      go_wp2_with (first
        | (go_at_call 106; (with_reducible refine (HP.out _).mono ?_); rintro E1 w1 ⟨rfl, hb1⟩)
        | (go_at_call 104; (with_reducible refine (HD.out _).mono ?_); rintro E2 w2 ⟨rfl, rfl⟩))
      go_ret2
      exact ⟨by rw [hV'.out, hB'.out]; rfl, hb1⟩
  · skip
    rcases b45 with ⟨h1, e1⟩ | ⟨h1, e1⟩
    · skip
      try clear b46
      try clear b45
      try clear b43
      try clear b101
      try clear b69
      try clear bn
      simp [h1] at hV hB
      have hV' := hid hV
      have hB' := hid hB
      clear hV hB hst h1
      go_enter Tryz.func103, Tryz.ntmps103
      go_wp2_with (first
        | (go_at_call 106; (with_reducible refine (HP.out _).mono ?_); rintro E1 w1 ⟨rfl, hb1⟩)
        | (go_at_call 104; (with_reducible refine (HD.out _).mono ?_); rintro E2 w2 ⟨rfl, rfl⟩))
      go_ret2
      exact ⟨by rw [hV'.out, hB'.out]; rfl, hb1⟩
    · rcases b43 with ⟨h2, e2⟩ | ⟨h2, e2⟩
      · skip
        try clear b46
        try clear b45
        try clear b43
        try clear b101
        try clear b69
        try clear bn
        simp [h2] at hV hB
        have hV' := hid hV
        have hB' := hid hB
        clear hV hB hst h1 h2
        go_enter Tryz.func103, Tryz.ntmps103
        go_wp2_with (first
          | (go_at_call 106; (with_reducible refine (HP.out _).mono ?_); rintro E1 w1 ⟨rfl, hb1⟩)
          | (go_at_call 104; (with_reducible refine (HD.out _).mono ?_); rintro E2 w2 ⟨rfl, rfl⟩))
        go_ret2
        exact ⟨by rw [hV'.out, hB'.out]; rfl, hb1⟩
      · skip
        try clear b46
        try clear b45
        try clear b43
        try clear b101
        try clear b69
        try clear bn
        simp [h1, h2] at hV hB
        have hV' := hid hV
        have hB' := hid hB
        clear hV hB hst h1 h2
        go_enter Tryz.func103, Tryz.ntmps103
        go_wp2_with (first
          | (go_at_call 106; (with_reducible refine (HP.out _).mono ?_); rintro E1 w1 ⟨rfl, hb1⟩)
          | (go_at_call 104; (with_reducible refine (HD.out _).mono ?_); rintro E2 w2 ⟨rfl, rfl⟩))
        go_ret2
        exact ⟨by rw [hV'.out, hB'.out]; rfl, hb1⟩
  · skip
    try clear b46
    try clear b45
    try clear b43
    try clear b101
    try clear b69
    try clear bn
    simp [] at hV hB
    have hV' := hid hV
    have hB' := hid hB
    clear hV hB hst
    go_enter Tryz.func103, Tryz.ntmps103
    go_wp2_with (first
      | (go_at_call 106; (with_reducible refine (HP.out _).mono ?_); rintro E1 w1 ⟨rfl, hb1⟩)
      | (go_at_call 104; (with_reducible refine (HD.out _).mono ?_); rintro E2 w2 ⟨rfl, rfl⟩))
    go_ret2
    exact ⟨by rw [hV'.out, hB'.out]; rfl, hb1⟩
  · skip
    cases d
    · skip
      try clear b46
      try clear b45
      try clear b43
      try clear b101
      try clear b69
      try clear bn
      simp [] at hV hB
      have hV' := hid hV
      have hB' := hid hB
      clear hV hB hst
      go_enter Tryz.func103, Tryz.ntmps103
      go_wp2_with (first
        | (go_at_call 106; (with_reducible refine (HP.out _).mono ?_); rintro E1 w1 ⟨rfl, hb1⟩)
        | (go_at_call 104; (with_reducible refine (HD.out _).mono ?_); rintro E2 w2 ⟨rfl, rfl⟩))
      go_ret2
      exact ⟨by rw [hV'.out, hB'.out]; rfl, hb1⟩
    · rcases bn with ⟨h1, e1⟩ | ⟨h1, e1⟩
      · skip
        try clear b46
        try clear b45
        try clear b43
        try clear b101
        try clear b69
        try clear bn
        simp [h1] at hV hB
        have hV' := hid hV
        have hB' := hid hB
        clear hV hB hst h1
        go_enter Tryz.func103, Tryz.ntmps103
        go_wp2_with (first
          | (go_at_call 106; (with_reducible refine (HP.out _).mono ?_); rintro E1 w1 ⟨rfl, hb1⟩)
          | (go_at_call 104; (with_reducible refine (HD.out _).mono ?_); rintro E2 w2 ⟨rfl, rfl⟩))
        go_ret2
        exact ⟨by rw [hV'.out, hB'.out]; rfl, hb1⟩
      · skip
        try clear b46
        try clear b45
        try clear b43
        try clear b101
        try clear b69
        try clear bn
        simp [h1] at hV hB
        have hV' := hid hV
        have hB' := hid hB
        clear hV hB hst h1
        go_enter Tryz.func103, Tryz.ntmps103
        go_wp2_with (first
          | (go_at_call 106; (with_reducible refine (HP.out _).mono ?_); rintro E1 w1 ⟨rfl, hb1⟩)
          | (go_at_call 104; (with_reducible refine (HD.out _).mono ?_); rintro E2 w2 ⟨rfl, rfl⟩))
        go_ret2
        exact ⟨by rw [hV'.out, hB'.out]; rfl, hb1⟩
  · skip
    try clear b46
    try clear b45
    try clear b43
    try clear b101
    try clear b69
    try clear bn
    simp [] at hV hB
    have hV' := hid hV
    have hB' := hid hB
    clear hV hB hst
    go_enter Tryz.func103, Tryz.ntmps103
    go_wp2_with (first
      | (go_at_call 106; (with_reducible refine (HP.out _).mono ?_); rintro E1 w1 ⟨rfl, hb1⟩)
      | (go_at_call 104; (with_reducible refine (HD.out _).mono ?_); rintro E2 w2 ⟨rfl, rfl⟩))
    go_ret2
    exact ⟨by rw [hV'.out, hB'.out]; rfl, hb1⟩
  · skip
    try clear b46
    try clear b45
    try clear b43
    try clear b101
    try clear b69
    try clear bn
    simp [] at hV hB
    have hV' := hid hV
    have hB' := hid hB
    clear hV hB hst
    go_enter Tryz.func103, Tryz.ntmps103
    go_wp2_with (first
      | (go_at_call 106; (with_reducible refine (HP.out _).mono ?_); rintro E1 w1 ⟨rfl, hb1⟩)
      | (go_at_call 104; (with_reducible refine (HD.out _).mono ?_); rintro E2 w2 ⟨rfl, rfl⟩))
    go_ret2
    exact ⟨by rw [hV'.out, hB'.out]; rfl, hb1⟩
end Go.Proofs.YtfalbdlfopfgcaaGreatDoor

