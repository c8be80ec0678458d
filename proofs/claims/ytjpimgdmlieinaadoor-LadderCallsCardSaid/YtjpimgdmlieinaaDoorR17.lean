/- gridworkref17: what admits: Angular, May, told. Conditions: kinds are bytes, Values have 64 bits. -/
import Derived.Test.YtjpimgdmlieinaaDoorNAdm
import Derived.Test.YtjpimgdmlieinaaDoorNRefK
namespace Go.Proofs.YtjpimgdmlieinaaDoor
open Go.RowKit

set_option maxRecDepth 100000 in
set_option maxHeartbeats 400000 in
theorem rAng_any (o : Nat) (w : World) : Calls Tryd.prog 58 #[.float .f64 o] w (RetE w (aboveE (val o))) := by
  have HA : aboveE (val o) = if fin (val o) = true then (if flt (val 0) (val o) = true then 0 else 2) else 5 := rfl
  have HF := hid fun w => FiniteReal_any o w
  cases h1 : fin (val o)
  · rw [h1, if_neg (by simp)] at HA
    rw [h1] at HF
    have H := hid HA
    clear HA h1
    go_enter Tryd.func58, Tryd.ntmps58
    go_wp2_with (go_at_call 98; (with_reducible refine (HF.out _).mono ?_); rintro e1 w1 ⟨rfl, n1, rfl⟩)
    go_ret
    exact ⟨by rw [H.out]; rfl, (by first | with_reducible exact Dr.refl _ | with_reducible exact Dr.mk _ _ | with_reducible exact Dr.trans (Dr.mk _ _) (Dr.mk _ _))⟩
  · rw [h1, if_pos rfl] at HA
    rw [h1] at HF
    cases h2 : flt (val 0) (val o)
    · rw [h2, if_neg (by simp)] at HA
      have H := hid HA
      clear HA h1
      go_enter Tryd.func58, Tryd.ntmps58
      go_wp2_with (go_at_call 98; (with_reducible refine (HF.out _).mono ?_); rintro e1 w1 ⟨rfl, n1, rfl⟩)
      go_ret
      exact ⟨by rw [H.out]; rfl, (by first | with_reducible exact Dr.refl _ | with_reducible exact Dr.mk _ _ | with_reducible exact Dr.trans (Dr.mk _ _) (Dr.mk _ _))⟩
    · rw [h2, if_pos rfl] at HA
      have H := hid HA
      clear HA h1
      go_enter Tryd.func58, Tryd.ntmps58
      go_wp2_with (go_at_call 98; (with_reducible refine (HF.out _).mono ?_); rintro e1 w1 ⟨rfl, n1, rfl⟩)
      go_ret
      exact ⟨by rw [H.out]; rfl, (by first | with_reducible exact Dr.refl _ | with_reducible exact Dr.mk _ _ | with_reducible exact Dr.trans (Dr.mk _ _) (Dr.mk _ _))⟩

def kind4 (k : Nat) : Bool := k == 1 || k == 8 || k == 2 || k == 3
def mayE (e : El) (o : Option Nat) : Int := if aboveE o = 0 then (if checkE e = 0 then (if kind4 e.kind = true then 0 else 2) else checkE e) else aboveE o
set_option maxRecDepth 100000 in
set_option maxHeartbeats 1000000 in
theorem rMay_any (e : El) (hk : e.kind < 256) (hv : IsW e.v) (o : Nat) (w : World) : Calls Tryd.prog 99 #[elV e, .float .f64 o] w (RetV w (.int .i64 (mayE e (val o)))) := by
  have HC := hid (show ∀ w, Calls Tryd.prog 94 #[.agg #[.int .u8 e.kind, .string e.name, .string e.a, .string e.b, .string e.c, .string e.d, .float .f64 e.v, .int .i64 e.ph]] w (RetV w (.int .i64 (checkE e))) from fun w => rCheck_any e hk hv w)
  have HA := hid fun w => rAng_any o w
  have HM : mayE e (val o) = if aboveE (val o) = 0 then (if checkE e = 0 then (if kind4 e.kind = true then 0 else 2) else checkE e) else aboveE (val o) := rfl
  obtain ⟨ab, hab⟩ : ∃ ab, ab = aboveE (val o) := ⟨_, rfl⟩
  obtain ⟨ck, hck⟩ : ∃ ck, ck = checkE e := ⟨_, rfl⟩
  rw [← hab] at HM HA
  rw [← hck] at HM HC
  clear hab hck
  have HN := hid (show AdW w e (w.alloc (.cells #[.int .u8 e.kind, .string e.name, .string e.a, .string e.b, .string e.c, .string e.d, .float .f64 e.v, .int .i64 e.ph] 30)) from AdW.new w e)
  show Calls Tryd.prog 99 #[.agg #[.int .u8 e.kind, .string e.name, .string e.a, .string e.b, .string e.c, .string e.d, .float .f64 e.v, .int .i64 e.ph], .float .f64 o] w _
  by_cases h1 : ab = 0
  · subst h1
    rw [if_pos rfl] at HM
    by_cases h2 : ck = 0
    · subst h2
      rw [if_pos rfl] at HM
      have hk4 : kind4 e.kind = ((e.kind == 1 || e.kind == 8) || e.kind == 2 || e.kind == 3) := rfl
      rw [hk4] at HM
      rcases k4 e.kind with ⟨a1, b1⟩ | ⟨a1, b1, b2⟩ | ⟨a1, a2, b1, b2, b3⟩ | ⟨a1, a2, a3, b1, b2, b3, b4⟩ | ⟨a1, a2, a3, b1, b2, b3, b4⟩
      all_goals
        first | rw [a1, a2, a3] at HM | rw [a1, a2] at HM | rw [a1] at HM
        simp only [Bool.or_true, Bool.true_or, Bool.or_self, if_true, if_false, Bool.false_eq_true] at HM
        have H := hid HM
        clear HM hk4 a1
        try clear a2
        try clear a3
        try have r1 : ((e.kind : Int) != 1) = true := by rw [bne, b1]; rfl
        try have r1 : ((e.kind : Int) != 1) = false := by rw [bne, b1]; rfl
        try have r2 : ((e.kind : Int) != 8) = true := by rw [bne, b2]; rfl
        try have r2 : ((e.kind : Int) != 8) = false := by rw [bne, b2]; rfl
        try have r3 : ((e.kind : Int) != 2) = true := by rw [bne, b3]; rfl
        try have r3 : ((e.kind : Int) != 2) = false := by rw [bne, b3]; rfl
        try have r4 : ((e.kind : Int) != 3) = true := by rw [bne, b4]; rfl
        try have r4 : ((e.kind : Int) != 3) = false := by rw [bne, b4]; rfl
        go_enter Tryd.func99, Tryd.ntmps99
        go_wp2_with (first | (go_at_call 58; (with_reducible refine (HA.out _).mono ?_); rintro e1 w1 ⟨rfl, n1, rfl⟩; have K1 := HN.out.drewN n1; obtain ⟨c0, c1, c2, c3, c4, c5, c6, c7⟩ := K1.cells) | (go_at_call 94; (with_reducible refine (HC.out _).mono ?_); rintro e2 w2 ⟨rfl, hb2⟩; have K2 := K1.below hb2; clear c0 c1 c2 c3 c4 c5 c6 c7 K1 hb2; obtain ⟨c0, c1, c2, c3, c4, c5, c6, c7⟩ := K2.cells))
        go_ret
        exact ⟨by rw [H.out]; rfl, K2.2⟩
    · rw [if_neg h2] at HM
      have g2 : (ck != 0) = true := by simpa using h2
      rw [HM]
      clear HM
      go_enter Tryd.func99, Tryd.ntmps99
      go_wp2_with (first | (go_at_call 58; (with_reducible refine (HA.out _).mono ?_); rintro e1 w1 ⟨rfl, n1, rfl⟩; have K1 := HN.out.drewN n1; obtain ⟨c0, c1, c2, c3, c4, c5, c6, c7⟩ := K1.cells) | (go_at_call 94; (with_reducible refine (HC.out _).mono ?_); rintro e2 w2 ⟨rfl, hb2⟩; have K2 := K1.below hb2; clear c0 c1 c2 c3 c4 c5 c6 c7 K1 hb2))
      go_ret
      exact ⟨rfl, K2.2⟩
  · rw [if_neg h1] at HM
    have g1 : (ab != 0) = true := by simpa using h1
    rw [HM]
    clear HM
    go_enter Tryd.func99, Tryd.ntmps99
    go_wp2_with (first | (go_at_call 58; (with_reducible refine (HA.out _).mono ?_); rintro e1 w1 ⟨rfl, n1, rfl⟩; have K1 := HN.out.drewN n1))
    go_ret
    exact ⟨rfl, K1.2⟩
end Go.Proofs.YtjpimgdmlieinaaDoor
