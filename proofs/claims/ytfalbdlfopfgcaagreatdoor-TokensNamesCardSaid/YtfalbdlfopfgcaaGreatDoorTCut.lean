/- A line cut into words, in the program. Condition: the line is no longer than 65,536 bytes. -/
import Derived.Test.YtfalbdlfopfgcaaGreatDoorTMod
import Derived.Test.YtfalbdlfopfgcaaGreatDoorRows
import Derived.WalkMore
namespace Go.Proofs.YtfalbdlfopfgcaaGreatDoor
open Go.RowKit

theorem info_tok : (Tryz.prog.info? 33).map (fun i => (i.zero, i.size, i.bytes)) = some (some (.agg #[.string ByteArray.empty, .int .i64 0, .int .i64 0]), 3, 32) := by kernel_rfl

theorem tok_z : (Value.agg #[.string ByteArray.empty, .int .i64 0, .int .i64 0]).cells.size = 3 := by kernel_rfl

def fromI (o : Option Nat) : Int := match o with | none => -1 | some f => f
/-- What a function on a line hands back: the words' cells, the error. -/
def RetW (w : World) (n : Nat) (cs : List Value) (err : Int) (e : Ending) (w' : World) : Prop := ∃ v, e = .returned (.tuple #[v, .int .i64 err]) ∧ w'.ownsRow w.heap.size 33 3 v n cs ∧ Below w.heap.size w w'
def toks (t : ByteArray) (line : Int) (ws : List (Nat × Nat)) : List Value := ws.flatMap (tokC t line)

def CutLoop (w : World) (t : ByteArray) (line : Int) (v from_ rem i : Value) (wr : World) : Prop := ∃ (k n : Nat) (ws : List (Nat × Nat)), i = .int .i64 k ∧ k ≤ t.size + 1 ∧ n = ws.length ∧ n ≤ k ∧ wr.ownsRow w.heap.size 33 3 v n (toks t line ws) ∧ Below w.heap.size w wr ∧
  ((∃ o, rem = .bool false ∧ k ≤ (bareW t.data.toList).length ∧ stW (bareW t.data.toList) k = .ok (ws, o) ∧ from_ = .int .i64 (fromI o)) ∨
   (∃ st r, stW (bareW t.data.toList) (bareW t.data.toList).length = .ok st ∧ ws = closeW st (bareW t.data.toList).length ∧ rem = .bool r ∧ from_ = .int .i64 (-1) ∧ (r = false → k = t.size + 1)))

set_option maxRecDepth 100000 in
set_option maxHeartbeats 4000000 in
theorem cut_any (t : ByteArray) (line : Int) (w : World) (ht : t.size ≤ 65536) :
    Calls Tryz.prog 33 #[.string t, .int .i64 line] w (RetW w (wordsW t.data.toList).length (toks t line (wordsW t.data.toList)) (errW t.data.toList)) := by
  go_enter Tryz.func33, Tryz.ntmps33
  go_wp2
  go_step3
  go_wp2
  go_step3
  go_wp2
  go_loopw [6, 7, 8, 9] (CutLoop w t line) (fun _ _ _ i _ => t.size + 2 - (intOf i).toNat)
  case atStart => exact ⟨0, 0, [], rfl, by omega, rfl, Nat.le_refl _, World.ownsRow_nil _ _ _ _, Below.refl _ _, .inl ⟨none, rfl, Nat.zero_le _, rfl, rfl⟩⟩
  case round =>
    obtain ⟨k, n, ws, rfl, hk, hn, hnk, hown, hb, hcase⟩ := hrel
    have hz := hb.size
    rcases hcase with ⟨o, rfl, hkb, hst, rfl⟩ | ⟨st, r, hst, hws, rfl, rfl, hr⟩
    · have hbl : (bareW t.data.toList).length ≤ t.size := by
        have h := bareW_len t.data.toList
        simpa using h
      obtain ⟨hfr, hcnt⟩ := stW_from hst
      have HS := hid hst
      clear hst
      by_cases hkl : k < (bareW t.data.toList).length
      · obtain ⟨c, hc, hcb, hrem⟩ := bareW_at hkl
        have hks : k < t.size := by omega
        have hck : (t[k]'hks).toNat = c.toNat := by
          have h : t.data.toList[k]? = some (t[k]'hks) := by
            rw [Array.getElem?_toList]
            exact Array.getElem?_eq_getElem hks
          rw [h] at hc
          cases hc
          rfl
        have hnext : stW (bareW t.data.toList) (k + 1) = stepW (ws, o) k c := by
          simp only [stW, HS.out, hcb]
        have HN := hid hnext
        clear hnext hc hcb
        obtain ⟨m, hm⟩ : ∃ m, m = c.toNat := ⟨_, rfl⟩
        rw [← hm] at hck
        have hm256 : m < 256 := by rw [hm]; exact c.toNat_lt
        have hne : m ≠ 42 ∧ m ≠ 59 := by
          have h1 : ∀ c : UInt8, remB c = false → c.toNat ≠ 42 ∧ c.toNat ≠ 59 := by
            intro c hr
            simp only [remB, Bool.or_eq_false_iff, beq_eq_false_iff_ne, ne_eq] at hr
            exact ⟨fun h => hr.1 (UInt8.toNat_inj.1 h), fun h => hr.2 (UInt8.toNat_inj.1 h)⟩
          rw [hm]
          exact h1 c hrem
        by_cases hbk : blankB c = true
        · have hnx : stepW (ws, o) k c = .ok (closeW (ws, o) k, none) := by unfold stepW; rw [if_pos hbk]
          have HX := hid hnx
          clear hnx
          have hm3 : m = 32 ∨ m = 9 ∨ m = 13 := by
            rw [hm]
            simp only [blankB, Bool.or_eq_true, beq_iff_eq] at hbk
            rcases hbk with (h | h) | h <;> subst h <;> simp
          clear hrem hbk hm hne hm256
          cases o with
          | none =>
            simp only [fromI]
            rcases hm3 with rfl | rfl | rfl
            all_goals
              go_wp2
              go_roundw
              case rel => exact ⟨k + 1, n, ws, by go_num, by omega, hn, by omega, hown, hb, .inl ⟨none, rfl, by omega, by rw [HN.out, HX.out]; rfl, rfl⟩⟩
              case measure => simp [intOf]; omega
          | some f =>
            have hfk := hfr f rfl
            simp only [fromI]
            rcases hm3 with rfl | rfl | rfl
            all_goals
              go_wp2_with (at_builtin; refine wpList_appS rfl _ _ 35 rfl w.heap.size 33 _ 3 32 (by decide) Tryz.underlying35 info_tok tok_z _ n _ [.string _, .int .i64 _, .int .i64 _] rfl rfl rfl (by simp [Value.oneCell']) (by exact hown) (by first | omega | (simp; omega)) (by first | omega | (simp; omega)) (by first | omega | (simp; omega)) ?_; intro v' w' h1 h2 h3)
              go_roundw
              case rel => exact ⟨k + 1, n + 1, ws ++ [(f, k)], by go_num, by omega, by simp [hn], by omega, by simpa [toks, tokC] using h1, hb.trans h2, .inl ⟨none, rfl, by omega, by rw [HN.out, HX.out]; rfl, rfl⟩⟩
              case measure => simp [intOf]; omega
        · have hm3 : ((m : Int) == 42) = false ∧ ((m : Int) == 59) = false ∧ ((m : Int) == 32) = false ∧ ((m : Int) == 9) = false ∧ ((m : Int) == 13) = false := by
            have h1 : ∀ c : UInt8, blankB c = false → c.toNat ≠ 32 ∧ c.toNat ≠ 9 ∧ c.toNat ≠ 13 := by
              intro c hr
              simp only [blankB, Bool.or_eq_false_iff, beq_eq_false_iff_ne, ne_eq] at hr
              exact ⟨fun h => hr.1.1 (UInt8.toNat_inj.1 h), fun h => hr.1.2 (UInt8.toNat_inj.1 h), fun h => hr.2 (UInt8.toNat_inj.1 h)⟩
            have h2 := h1 c (by simpa using hbk)
            rw [← hm] at h2
            simp only [beq_eq_false_iff_ne, ne_eq]
            omega
          obtain ⟨m1, m2, m3, m4, m5⟩ := hm3
          by_cases hbad : badB c = true
          · have hnx : stepW (ws, o) k c = .error 240 := by unfold stepW; rw [if_neg hbk, if_pos hbad]
            have herr : stW (bareW t.data.toList) (bareW t.data.toList).length = .error 240 := stW_error (by rw [HN.out, hnx]) _ (by omega)
            have hE : errW t.data.toList = 240 ∧ wordsW t.data.toList = [] := by unfold errW wordsW; rw [herr]; exact ⟨rfl, rfl⟩
            have HE := hid hE
            clear hE herr hnx
            have hb2 : m < 33 ∨ (33 ≤ m ∧ 126 < m) := by
              rw [hm]
              simp only [badB, Bool.or_eq_true, decide_eq_true_eq] at hbad
              omega
            clear hbad hrem hbk hm hne
            rcases hb2 with hb2 | ⟨hb2, hb3⟩
            all_goals
              go_wp2
              go_ret2
              rw [HE.out.1, HE.out.2]
              exact ⟨_, rfl, World.ownsRow_nil _ _ _ _, hb⟩
          · have hb2 : 33 ≤ m ∧ m ≤ 126 := by
              rw [hm]
              simp only [badB, Bool.or_eq_true, decide_eq_true_eq] at hbad
              omega
            obtain ⟨hb2, hb3⟩ := hb2
            cases o with
            | none =>
              have hnx : stepW (ws, none) k c = .ok (ws, some k) := by unfold stepW; rw [if_neg hbk, if_neg hbad]
              have HX := hid hnx
              clear hnx hbad hrem hbk hm hne
              simp only [fromI]
              go_wp2
              go_roundw
              case rel => exact ⟨k + 1, n, ws, by go_num, by omega, hn, by omega, hown, hb, .inl ⟨some k, rfl, by omega, by rw [HN.out, HX.out], rfl⟩⟩
              case measure => simp [intOf]; omega
            | some f =>
              have hfk := hfr f rfl
              by_cases h80 : 80 ≤ k - f
              · have hnx : stepW (ws, some f) k c = .error 3 := by unfold stepW; rw [if_neg hbk, if_neg hbad]; simp only [if_pos h80]
                have herr : stW (bareW t.data.toList) (bareW t.data.toList).length = .error 3 := stW_error (by rw [HN.out, hnx]) _ (by omega)
                have hE : errW t.data.toList = 3 ∧ wordsW t.data.toList = [] := by unfold errW wordsW; rw [herr]; exact ⟨rfl, rfl⟩
                have HE := hid hE
                have h80' : (80 : Int) ≤ (k : Int) - (f : Int) := by omega
                clear hE herr hnx hbad hrem hbk hm hne
                simp only [fromI]
                go_wp2
                go_ret2
                rw [HE.out.1, HE.out.2]
                exact ⟨_, rfl, World.ownsRow_nil _ _ _ _, hb⟩
              · have hnx : stepW (ws, some f) k c = .ok (ws, some f) := by unfold stepW; rw [if_neg hbk, if_neg hbad]; simp only [if_neg h80]
                have HX := hid hnx
                have h80' : (k : Int) - (f : Int) < (80 : Int) := by omega
                clear hnx hbad hrem hbk hm hne
                simp only [fromI]
                go_wp2
                go_roundw
                case rel => exact ⟨k + 1, n, ws, by go_num, by omega, hn, by omega, hown, hb, .inl ⟨some f, rfl, by omega, by rw [HN.out, HX.out], rfl⟩⟩
                case measure => simp [intOf]; omega
      · have hkb2 : k = (bareW t.data.toList).length := by omega
        have hfin : ∀ v wr' n', n' = (closeW (ws, o) k).length → n' ≤ k + 1 → ∀ r, (r = false → k + 1 = t.size + 1) → wr'.ownsRow w.heap.size 33 3 v n' (toks t line (closeW (ws, o) k)) → Below w.heap.size w wr' → k + 1 ≤ t.size + 1 →
            CutLoop w t line v (.int .i64 (-1)) (.bool r) (.int .i64 ((k + 1 : Nat) : Int)) wr' := by
          intro v wr' n' hn' hn2 r hr h1 h2 h3
          refine ⟨k + 1, n', closeW (ws, o) k, rfl, h3, hn', hn2, h1, h2, .inr ⟨(ws, o), r, ?_, ?_, rfl, rfl, hr⟩⟩
          · rw [← hkb2]; exact HS.out
          · rw [← hkb2]
        have HF := hid hfin
        clear hfin
        by_cases hks : k < t.size
        · obtain ⟨c, hc, hrem⟩ := bareW_end (t := t.data.toList) (by simpa [← hkb2] using hks)
          rw [← hkb2] at hc
          have hck : (t[k]'hks).toNat = c.toNat := by
            have h : t.data.toList[k]? = some (t[k]'hks) := by
              rw [Array.getElem?_toList]
              exact Array.getElem?_eq_getElem hks
            rw [h] at hc
            cases hc
            rfl
          obtain ⟨m, hm⟩ : ∃ m, m = c.toNat := ⟨_, rfl⟩
          rw [← hm] at hck
          have hm3 : m = 42 ∨ m = 59 := by
            rw [hm]
            simp only [remB, Bool.or_eq_true, beq_iff_eq] at hrem
            rcases hrem with h | h <;> subst h <;> simp
          clear hrem hm hc hkb hkb2 hkl hbl
          cases o with
          | none =>
            simp only [fromI]
            rcases hm3 with rfl | rfl
            all_goals
              go_wp2
              go_roundw
              case rel => exact HF.out _ _ n hn (by omega) _ (by simp) hown hb (by omega)
              case measure => simp [intOf]; omega
          | some f =>
            have hfk := hfr f rfl
            simp only [fromI]
            rcases hm3 with rfl | rfl
            all_goals
              go_wp2_with (at_builtin; refine wpList_appS rfl _ _ 35 rfl w.heap.size 33 _ 3 32 (by decide) Tryz.underlying35 info_tok tok_z _ n _ [.string _, .int .i64 _, .int .i64 _] rfl rfl rfl (by simp [Value.oneCell']) (by exact hown) (by first | omega | (simp; omega)) (by first | omega | (simp; omega)) (by first | omega | (simp; omega)) ?_; intro v' w' h1 h2 h3)
              go_roundw
              case rel => exact HF.out _ _ (n + 1) (by simp [closeW, hn]) (by omega) _ (by simp) (by simpa [toks, tokC, closeW] using h1) (hb.trans h2) (by omega)
              case measure => simp [intOf]; omega
        · have hkt : k ≤ t.size := by omega
          have hkt2 : t.size ≤ k := by omega
          clear hkb hkb2 hkl hbl
          cases o with
          | none =>
            simp only [fromI]
            go_wp2
            go_roundw
            case rel => exact HF.out _ _ n hn (by omega) _ (by intro _; omega) hown hb (by omega)
            case measure => simp [intOf]; omega
          | some f =>
            have hfk := hfr f rfl
            simp only [fromI]
            go_wp2_with (at_builtin; refine wpList_appS rfl _ _ 35 rfl w.heap.size 33 _ 3 32 (by decide) Tryz.underlying35 info_tok tok_z _ n _ [.string _, .int .i64 _, .int .i64 _] rfl rfl rfl (by simp [Value.oneCell']) (by exact hown) (by first | omega | (simp; omega)) (by first | omega | (simp; omega)) (by first | omega | (simp; omega)) ?_; intro v' w' h1 h2 h3)
            go_roundw
            case rel => exact HF.out _ _ (n + 1) (by simp [closeW, hn]) (by omega) _ (by intro _; omega) (by simpa [toks, tokC, closeW] using h1) (hb.trans h2) (by omega)
            case measure => simp [intOf]; omega
    · have hE : errW t.data.toList = 0 ∧ wordsW t.data.toList = ws := by
        unfold errW wordsW
        rw [hst, hws]
        exact ⟨rfl, rfl⟩
      have HE := hid hE
      have HS := hid hst
      have HW := hid hws
      clear hE hst hws
      by_cases hke : k ≤ t.size
      · cases r with
        | false => exfalso; have := hr rfl; omega
        | true =>
          go_wp2
          go_roundw
          case rel => exact ⟨k + 1, n, ws, by go_num, by omega, hn, by omega, hown, hb, .inr ⟨st, true, HS.out, HW.out, rfl, rfl, by simp⟩⟩
          case measure => simp [intOf]; omega
      · go_wp2
        go_ret2
        rw [HE.out.1, HE.out.2, ← hn]
        exact ⟨_, rfl, hown, hb⟩
end Go.Proofs.YtfalbdlfopfgcaaGreatDoor

