/- A line cut into words, in the program. Condition: the line is no longer than 65,536 bytes. Where words end. No program, no condition. The lines of a text: strings.Cut at byte 10 and the reference's Lines. No condition but that a text is no longer than a text can be. Rows of rows that a call makes: each row in a block of its own. No condition. A text cut into words, line by line: the program and the reference. Condition: a text is no longer than a text can be. Rows of rows that read alike are the same. No condition. -/
import Derived.Test.YtfalbdlfopfgcaaGreatDoorFlM
import Derived.Test.YtfalbdlfopfgcaaGreatDoorRows
import Derived.WalkMore
import Derived.Test.YtfalbdlfopfgcaaGreatDoorShelf
import Derived.Maps.AppendAt
namespace Go.Proofs.YtfalbdlfopfgcaaGreatDoor
open Go.RowKit

theorem info_tok : (Tryz.prog.info? 33).map (fun i => (i.zero, i.size, i.bytes)) = some (some (.agg #[.string ByteArray.empty, .int .i64 0, .int .i64 0]), 3, 32) := by kernel_rfl

theorem tok_z : (Value.agg #[.string ByteArray.empty, .int .i64 0, .int .i64 0]).cells.size = 3 := by kernel_rfl

def fromI (o : Option Nat) : Int := match o with | none => -1 | some f => f
/-- What a function on a line hands back: the words' cells, the error. -/
def RetW (w : World) (n : Nat) (cs : List Value) (err : Int) (e : Ending) (w' : World) : Prop := ∃ v, e = .returned (.tuple #[v, .int .i64 err]) ∧ w'.ownsRow w.heap.size 33 3 v n cs ∧ Below w.heap.size w w'
def toks (t : ByteArray) (line : Int) (ws : List (Nat × Nat)) : List Value := ws.flatMap (tokC t line)

def CutLoop (w : World) (t : ByteArray) (line : Int) (v from_ rem i : Value) (wr : World) : Prop := ∃ (k n : Nat) (ws : List (Nat × Nat)), i = .int .i64 k ∧ k ≤ t.size + 1 ∧ n = ws.length ∧ n ≤ k ∧ wr.ownsRow w.heap.size 33 3 v n (toks t line ws) ∧ Below w.heap.size w wr ∧
  ((∃ o, rem = .bool false ∧ k ≤ (bareW t.data.toList).length ∧ stW (bareW t.data.toList) k = .ok (ws, o) ∧ from_ = .int .i64 (fromI o)) ∨
   (∃ st r, stW (bareW t.data.toList) (bareW t.data.toList).length = .ok st ∧ ws = closeW st (bareW t.data.toList).length ∧ rem = .bool r ∧ from_ = .int .i64 (-1) ∧ (r = false → k = t.size + 1)))

set_option maxRecDepth 100000 in
set_option maxHeartbeats 4000000 in
theorem cut_any (t : ByteArray) (line : Int) (w : World) (ht : t.size ≤ 65536) :
    Calls Tryz.prog 33 #[.string t, .int .i64 line] w (RetW w (wordsW t.data.toList).length (toks t line (wordsW t.data.toList)) (errW t.data.toList)) := by
  go_enter Tryz.func33, Tryz.ntmps33
  go_wp2
  go_step3
  go_wp2
  go_step3
  go_wp2
  go_loopw [6, 7, 8, 9] (CutLoop w t line) (fun _ _ _ i _ => t.size + 2 - (intOf i).toNat)
  case atStart => exact ⟨0, 0, [], rfl, by omega, rfl, Nat.le_refl _, World.ownsRow_nil _ _ _ _, Below.refl _ _, .inl ⟨none, rfl, Nat.zero_le _, rfl, rfl⟩⟩
  case round =>
    obtain ⟨k, n, ws, rfl, hk, hn, hnk, hown, hb, hcase⟩ := hrel
    have hz := hb.size
    rcases hcase with ⟨o, rfl, hkb, hst, rfl⟩ | ⟨st, r, hst, hws, rfl, rfl, hr⟩
    · have hbl : (bareW t.data.toList).length ≤ t.size := by
        have h := bareW_len t.data.toList
        simpa using h
      obtain ⟨hfr, hcnt⟩ := stW_from hst
      have HS := hid hst
      clear hst
      by_cases hkl : k < (bareW t.data.toList).length
      · obtain ⟨c, hc, hcb, hrem⟩ := bareW_at hkl
        have hks : k < t.size := by omega
        have hck : (t[k]'hks).toNat = c.toNat := by
          have h : t.data.toList[k]? = some (t[k]'hks) := by
            rw [Array.getElem?_toList]
            exact Array.getElem?_eq_getElem hks
          rw [h] at hc
          cases hc
          rfl
        have hnext : stW (bareW t.data.toList) (k + 1) = stepW (ws, o) k c := by
          simp only [stW, HS.out, hcb]
        have HN := hid hnext
        clear hnext hc hcb
        obtain ⟨m, hm⟩ : ∃ m, m = c.toNat := ⟨_, rfl⟩
        rw [← hm] at hck
        have hm256 : m < 256 := by rw [hm]; exact c.toNat_lt
        have hne : m ≠ 42 ∧ m ≠ 59 := by
          have h1 : ∀ c : UInt8, remB c = false → c.toNat ≠ 42 ∧ c.toNat ≠ 59 := by
            intro c hr
            simp only [remB, Bool.or_eq_false_iff, beq_eq_false_iff_ne, ne_eq] at hr
            exact ⟨fun h => hr.1 (UInt8.toNat_inj.1 h), fun h => hr.2 (UInt8.toNat_inj.1 h)⟩
          rw [hm]
          exact h1 c hrem
        by_cases hbk : blankB c = true
        · have hnx : stepW (ws, o) k c = .ok (closeW (ws, o) k, none) := by unfold stepW; rw [if_pos hbk]
          have HX := hid hnx
          clear hnx
          have hm3 : m = 32 ∨ m = 9 ∨ m = 13 := by
            rw [hm]
            simp only [blankB, Bool.or_eq_true, beq_iff_eq] at hbk
            rcases hbk with (h | h) | h <;> subst h <;> simp
          clear hrem hbk hm hne hm256
          cases o with
          | none =>
            simp only [fromI]
            rcases hm3 with rfl | rfl | rfl
            all_goals
              go_wp2
              go_roundw
              case rel => exact ⟨k + 1, n, ws, by go_num, by omega, hn, by omega, hown, hb, .inl ⟨none, rfl, by omega, by rw [HN.out, HX.out]; rfl, rfl⟩⟩
              case measure => simp [intOf]; omega
          | some f =>
            have hfk := hfr f rfl
            simp only [fromI]
            rcases hm3 with rfl | rfl | rfl
            all_goals
              go_wp2_with (at_builtin; refine wpList_appS rfl _ _ 35 rfl w.heap.size 33 _ 3 32 (by decide) Tryz.underlying35 info_tok tok_z _ n _ [.string _, .int .i64 _, .int .i64 _] rfl rfl rfl (by simp [Value.oneCell']) (by exact hown) (by first | omega | (simp; omega)) (by first | omega | (simp; omega)) (by first | omega | (simp; omega)) ?_; intro v' w' h1 h2 h3)
              go_roundw
              case rel => exact ⟨k + 1, n + 1, ws ++ [(f, k)], by go_num, by omega, by simp [hn], by omega, by simpa [toks, tokC] using h1, hb.trans h2, .inl ⟨none, rfl, by omega, by rw [HN.out, HX.out]; rfl, rfl⟩⟩
              case measure => simp [intOf]; omega
        · have hm3 : ((m : Int) == 42) = false ∧ ((m : Int) == 59) = false ∧ ((m : Int) == 32) = false ∧ ((m : Int) == 9) = false ∧ ((m : Int) == 13) = false := by
            have h1 : ∀ c : UInt8, blankB c = false → c.toNat ≠ 32 ∧ c.toNat ≠ 9 ∧ c.toNat ≠ 13 := by
              intro c hr
              simp only [blankB, Bool.or_eq_false_iff, beq_eq_false_iff_ne, ne_eq] at hr
              exact ⟨fun h => hr.1.1 (UInt8.toNat_inj.1 h), fun h => hr.1.2 (UInt8.toNat_inj.1 h), fun h => hr.2 (UInt8.toNat_inj.1 h)⟩
            have h2 := h1 c (by simpa using hbk)
            rw [← hm] at h2
            simp only [beq_eq_false_iff_ne, ne_eq]
            omega
          obtain ⟨m1, m2, m3, m4, m5⟩ := hm3
          by_cases hbad : badB c = true
          · have hnx : stepW (ws, o) k c = .error 240 := by unfold stepW; rw [if_neg hbk, if_pos hbad]
            have herr : stW (bareW t.data.toList) (bareW t.data.toList).length = .error 240 := stW_error (by rw [HN.out, hnx]) _ (by omega)
            have hE : errW t.data.toList = 240 ∧ wordsW t.data.toList = [] := by unfold errW wordsW; rw [herr]; exact ⟨rfl, rfl⟩
            have HE := hid hE
            clear hE herr hnx
            have hb2 : m < 33 ∨ (33 ≤ m ∧ 126 < m) := by
              rw [hm]
              simp only [badB, Bool.or_eq_true, decide_eq_true_eq] at hbad
              omega
            clear hbad hrem hbk hm hne
            rcases hb2 with hb2 | ⟨hb2, hb3⟩
            all_goals
              go_wp2
              go_ret2
              rw [HE.out.1, HE.out.2]
              exact ⟨_, rfl, World.ownsRow_nil _ _ _ _, hb⟩
          · have hb2 : 33 ≤ m ∧ m ≤ 126 := by
              rw [hm]
              simp only [badB, Bool.or_eq_true, decide_eq_true_eq] at hbad
              omega
            obtain ⟨hb2, hb3⟩ := hb2
            cases o with
            | none =>
              have hnx : stepW (ws, none) k c = .ok (ws, some k) := by unfold stepW; rw [if_neg hbk, if_neg hbad]
              have HX := hid hnx
              clear hnx hbad hrem hbk hm hne
              simp only [fromI]
              go_wp2
              go_roundw
              case rel => exact ⟨k + 1, n, ws, by go_num, by omega, hn, by omega, hown, hb, .inl ⟨some k, rfl, by omega, by rw [HN.out, HX.out], rfl⟩⟩
              case measure => simp [intOf]; omega
            | some f =>
              have hfk := hfr f rfl
              by_cases h80 : 80 ≤ k - f
              · have hnx : stepW (ws, some f) k c = .error 3 := by unfold stepW; rw [if_neg hbk, if_neg hbad]; simp only [if_pos h80]
                have herr : stW (bareW t.data.toList) (bareW t.data.toList).length = .error 3 := stW_error (by rw [HN.out, hnx]) _ (by omega)
                have hE : errW t.data.toList = 3 ∧ wordsW t.data.toList = [] := by unfold errW wordsW; rw [herr]; exact ⟨rfl, rfl⟩
                have HE := hid hE
                have h80' : (80 : Int) ≤ (k : Int) - (f : Int) := by omega
                clear hE herr hnx hbad hrem hbk hm hne
                simp only [fromI]
                go_wp2
                go_ret2
                rw [HE.out.1, HE.out.2]
                exact ⟨_, rfl, World.ownsRow_nil _ _ _ _, hb⟩
              · have hnx : stepW (ws, some f) k c = .ok (ws, some f) := by unfold stepW; rw [if_neg hbk, if_neg hbad]; simp only [if_neg h80]
                have HX := hid hnx
                have h80' : (k : Int) - (f : Int) < (80 : Int) := by omega
                clear hnx hbad hrem hbk hm hne
                simp only [fromI]
                go_wp2
                go_roundw
                case rel => exact ⟨k + 1, n, ws, by go_num, by omega, hn, by omega, hown, hb, .inl ⟨some f, rfl, by omega, by rw [HN.out, HX.out], rfl⟩⟩
                case measure => simp [intOf]; omega
      · have hkb2 : k = (bareW t.data.toList).length := by omega
        have hfin : ∀ v wr' n', n' = (closeW (ws, o) k).length → n' ≤ k + 1 → ∀ r, (r = false → k + 1 = t.size + 1) → wr'.ownsRow w.heap.size 33 3 v n' (toks t line (closeW (ws, o) k)) → Below w.heap.size w wr' → k + 1 ≤ t.size + 1 →
            CutLoop w t line v (.int .i64 (-1)) (.bool r) (.int .i64 ((k + 1 : Nat) : Int)) wr' := by
          intro v wr' n' hn' hn2 r hr h1 h2 h3
          refine ⟨k + 1, n', closeW (ws, o) k, rfl, h3, hn', hn2, h1, h2, .inr ⟨(ws, o), r, ?_, ?_, rfl, rfl, hr⟩⟩
          · rw [← hkb2]; exact HS.out
          · rw [← hkb2]
        have HF := hid hfin
        clear hfin
        by_cases hks : k < t.size
        · obtain ⟨c, hc, hrem⟩ := bareW_end (t := t.data.toList) (by simpa [← hkb2] using hks)
          rw [← hkb2] at hc
          have hck : (t[k]'hks).toNat = c.toNat := by
            have h : t.data.toList[k]? = some (t[k]'hks) := by
              rw [Array.getElem?_toList]
              exact Array.getElem?_eq_getElem hks
            rw [h] at hc
            cases hc
            rfl
          obtain ⟨m, hm⟩ : ∃ m, m = c.toNat := ⟨_, rfl⟩
          rw [← hm] at hck
          have hm3 : m = 42 ∨ m = 59 := by
            rw [hm]
            simp only [remB, Bool.or_eq_true, beq_iff_eq] at hrem
            rcases hrem with h | h <;> subst h <;> simp
          clear hrem hm hc hkb hkb2 hkl hbl
          cases o with
          | none =>
            simp only [fromI]
            rcases hm3 with rfl | rfl
            all_goals
              go_wp2
              go_roundw
              case rel => exact HF.out _ _ n hn (by omega) _ (by simp) hown hb (by omega)
              case measure => simp [intOf]; omega
          | some f =>
            have hfk := hfr f rfl
            simp only [fromI]
            rcases hm3 with rfl | rfl
            all_goals
              go_wp2_with (at_builtin; refine wpList_appS rfl _ _ 35 rfl w.heap.size 33 _ 3 32 (by decide) Tryz.underlying35 info_tok tok_z _ n _ [.string _, .int .i64 _, .int .i64 _] rfl rfl rfl (by simp [Value.oneCell']) (by exact hown) (by first | omega | (simp; omega)) (by first | omega | (simp; omega)) (by first | omega | (simp; omega)) ?_; intro v' w' h1 h2 h3)
              go_roundw
              case rel => exact HF.out _ _ (n + 1) (by simp [closeW, hn]) (by omega) _ (by simp) (by simpa [toks, tokC, closeW] using h1) (hb.trans h2) (by omega)
              case measure => simp [intOf]; omega
        · have hkt : k ≤ t.size := by omega
          have hkt2 : t.size ≤ k := by omega
          clear hkb hkb2 hkl hbl
          cases o with
          | none =>
            simp only [fromI]
            go_wp2
            go_roundw
            case rel => exact HF.out _ _ n hn (by omega) _ (by intro _; omega) hown hb (by omega)
            case measure => simp [intOf]; omega
          | some f =>
            have hfk := hfr f rfl
            simp only [fromI]
            go_wp2_with (at_builtin; refine wpList_appS rfl _ _ 35 rfl w.heap.size 33 _ 3 32 (by decide) Tryz.underlying35 info_tok tok_z _ n _ [.string _, .int .i64 _, .int .i64 _] rfl rfl rfl (by simp [Value.oneCell']) (by exact hown) (by first | omega | (simp; omega)) (by first | omega | (simp; omega)) (by first | omega | (simp; omega)) ?_; intro v' w' h1 h2 h3)
            go_roundw
            case rel => exact HF.out _ _ (n + 1) (by simp [closeW, hn]) (by omega) _ (by intro _; omega) (by simpa [toks, tokC, closeW] using h1) (hb.trans h2) (by omega)
            case measure => simp [intOf]; omega
    · have hE : errW t.data.toList = 0 ∧ wordsW t.data.toList = ws := by
        unfold errW wordsW
        rw [hst, hws]
        exact ⟨rfl, rfl⟩
      have HE := hid hE
      have HS := hid hst
      have HW := hid hws
      clear hE hst hws
      by_cases hke : k ≤ t.size
      · cases r with
        | false => exfalso; have := hr rfl; omega
        | true =>
          go_wp2
          go_roundw
          case rel => exact ⟨k + 1, n, ws, by go_num, by omega, hn, by omega, hown, hb, .inr ⟨st, true, HS.out, HW.out, rfl, rfl, by simp⟩⟩
          case measure => simp [intOf]; omega
      · go_wp2
        go_ret2
        rw [HE.out.1, HE.out.2, ← hn]
        exact ⟨_, rfl, hown, hb⟩
end Go.Proofs.YtfalbdlfopfgcaaGreatDoor

namespace Go.Proofs.YtfalbdlfopfgcaaGreatDoor
theorem closeW_ends {b : List UInt8} : ∀ {k : Nat} {st : St}, stW b k = .ok st → ∀ p ∈ closeW st k, p.1 < p.2 ∧ p.2 ≤ k := by
  intro k
  induction k with
  | zero =>
    intro st h p hp
    simp only [stW, Except.ok.injEq] at h
    subst h
    simp [closeW] at hp
  | succ k ih =>
    intro st h p hp
    simp only [stW] at h
    split at h
    · cases h
    · rename_i st0 hst
      obtain ⟨vs, q⟩ := st0
      have i := ih hst
      have hq := stW_from hst
      simp only [stepW] at h
      split at h
      · simp only [Except.ok.injEq] at h
        subst h
        have := i p hp
        omega
      · split at h
        · cases h
        · cases q with
          | none =>
            simp only [Except.ok.injEq] at h
            subst h
            simp only [closeW, List.mem_append, List.mem_singleton] at hp i
            rcases hp with hp | rfl
            · have := i p hp; omega
            · simp
          | some f =>
            simp only at h
            split at h
            · cases h
            · simp only [Except.ok.injEq] at h
              subst h
              have hf := hq.1 f rfl
              simp only [closeW, List.mem_append, List.mem_singleton] at hp i
              rcases hp with hp | rfl
              · have := i p (.inl hp); omega
              · simp; omega
theorem wordsW_ends (t : List UInt8) : ∀ p ∈ wordsW t, p.1 < p.2 ∧ p.2 ≤ (bareW t).length := by
  intro p hp
  unfold wordsW at hp
  split at hp
  · cases hp
  · rename_i st h
    exact closeW_ends h p hp
theorem wordsW_len (t : List UInt8) : (wordsW t).length ≤ t.length := by
  have hb := bareW_len t
  unfold wordsW
  split
  · simp
  · rename_i st h
    obtain ⟨ws, o⟩ := st
    have := (stW_from h).2
    cases o with
    | none => simp [closeW] at this ⊢; omega
    | some f => simp [closeW] at this ⊢; omega
end Go.Proofs.YtfalbdlfopfgcaaGreatDoor

namespace Go.Proofs.YtfalbdlfopfgcaaGreatDoor
open Go.RowKit

def mk (l : List UInt8) : ByteArray := ⟨l.toArray⟩
@[simp] theorem mk_toList (l : List UInt8) : (mk l).data.toList = l := rfl
@[simp] theorem mk_size (l : List UInt8) : (mk l).size = l.length := rfl
theorem mk_of (s : ByteArray) : mk s.data.toList = s := by cases s; simp [mk]
theorem mk_inj {a b : List UInt8} : mk a = mk b ↔ a = b := ⟨fun h => by simpa using congrArg (fun s : ByteArray => s.data.toList) h, fun h => by rw [h]⟩
theorem mk_ext (l : List UInt8) (i j : Nat) : (mk l).extract i j = mk ((l.drop i).take (j - i)) := by
  rw [← mk_of ((mk l).extract i j)]
  congr 1
  rw [ByteArray.data_extract, Array.toList_extract, List.extract_eq_take_drop]
  rfl
theorem str_of (s : ByteArray) : ∃ l, s = mk l := ⟨s.data.toList, (mk_of s).symm⟩

def linesFrom : List UInt8 → List UInt8 → List (List UInt8)
  | cur, [] => if cur = [] then [] else [cur]
  | cur, c :: r => if c = 10 then cur :: linesFrom [] r else linesFrom (cur ++ [c]) r
def lines (l : List UInt8) : List (List UInt8) := linesFrom [] l
theorem linesFrom_no {r : List UInt8} : ∀ {cur : List UInt8}, 10 ∉ r → linesFrom cur r = if cur ++ r = [] then [] else [cur ++ r] := by
  induction r with
  | nil => intro cur _; simp [linesFrom]
  | cons c r ih =>
    intro cur h
    simp only [List.mem_cons, not_or] at h
    rw [linesFrom, if_neg (fun e => h.1 e.symm), ih h.2]
    simp
theorem linesFrom_cut {a b : List UInt8} : ∀ {cur : List UInt8}, 10 ∉ a → linesFrom cur (a ++ 10 :: b) = (cur ++ a) :: lines b := by
  induction a with
  | nil => intro cur _; simp [linesFrom, lines]
  | cons c a ih =>
    intro cur h
    simp only [List.mem_cons, not_or] at h
    rw [List.cons_append, linesFrom, if_neg (fun e => h.1 e.symm), ih h.2]
    simp
theorem lines_no {r : List UInt8} (h : 10 ∉ r) (hr : r ≠ []) : lines r = [r] := by
  unfold lines; rw [linesFrom_no h]; simp [hr]
theorem lines_cut {a b : List UInt8} (h : 10 ∉ a) : lines (a ++ 10 :: b) = a :: lines b := by
  unfold lines; rw [linesFrom_cut h]; simp [lines]

/-- Where a byte 10 is first met. -/
theorem index_cut (l : List UInt8) : (10 ∉ l ∧ Lib.indexByte l 10 = -1) ∨ ∃ a b, l = a ++ 10 :: b ∧ 10 ∉ a ∧ Lib.indexByte l 10 = a.length := by
  induction l with
  | nil => exact .inl ⟨by simp, rfl⟩
  | cons c l ih =>
    by_cases hc : c = 10
    · subst hc
      exact .inr ⟨[], l, rfl, by simp, by simp [Lib.indexByte]⟩
    · rcases ih with ⟨h1, h2⟩ | ⟨a, b, rfl, h1, h2⟩
      · refine .inl ⟨by simp only [List.mem_cons, not_or]; exact ⟨fun e => hc e.symm, h1⟩, ?_⟩
        simp [Lib.indexByte, hc, h2]
      · refine .inr ⟨c :: a, b, rfl, by simp only [List.mem_cons, not_or]; exact ⟨fun e => hc e.symm, h1⟩, ?_⟩
        have : ((a.length : Int) == -1) = false := by simp only [beq_eq_false_iff_ne]; omega
        simp [Lib.indexByte, hc, h2, this]

theorem index_no {l : List UInt8} (h : 10 ∉ l) : Lib.indexByte l 10 = -1 := by
  rcases index_cut l with ⟨_, h2⟩ | ⟨a, b, rfl, _, _⟩
  · exact h2
  · simp at h
theorem index_at {a b : List UInt8} (h : 10 ∉ a) : Lib.indexByte (a ++ 10 :: b) 10 = a.length := by
  induction a with
  | nil => simp [Lib.indexByte]
  | cons c a ih =>
    simp only [List.mem_cons, not_or] at h
    have := ih h.2
    have h2 : ((a.length : Int) == -1) = false := by simp only [beq_eq_false_iff_ne]; omega
    have h3 : (c == 10) = false := by simp only [beq_eq_false_iff_ne]; exact fun e => h.1 e.symm
    rw [List.cons_append, Lib.indexByte, h3, this, h2]
    simp

/-- What strings.Cut at byte 10 gives. -/
def RetCutS (w : World) (a b : List UInt8) (f : Bool) (e : Ending) (w' : World) : Prop := (∃ n, w' = w.drewN n) ∧ e = .returned (.tuple #[.string (mk a), .string (mk b), .bool f])

set_option maxHeartbeats 1000000 in
theorem sliteCut_no (l : List UInt8) (w : World) (h1 : 10 ∉ l) : Calls Tryz.prog 61 #[.string (mk l), .string ⟨#[10]⟩] w (RetCutS w l [] false) := by
  have h2 := index_no h1
  clear h1
  go_enter Tryz.func61, Tryz.ntmps61
  go_wp2_with (go_at_call 86; refine (Tryz.stringslite_Index_one (mk l) 10 _).mono ?_; rintro e w' ⟨rfl, rfl⟩; rw [mk_toList, h2])
  go_ret3
  exact ⟨⟨0, rfl⟩, rfl⟩
set_option maxHeartbeats 1000000 in
theorem sliteCut_at (a b : List UInt8) (w : World) (hl : (a ++ 10 :: b).length ≤ 65536) (h1 : 10 ∉ a) : Calls Tryz.prog 61 #[.string (mk (a ++ 10 :: b)), .string ⟨#[10]⟩] w (RetCutS w a b true) := by
  have h2 := index_at (b := b) h1
  clear h1
  obtain ⟨l, he⟩ : ∃ l, l = a ++ 10 :: b := ⟨_, rfl⟩
  rw [← he] at h2 hl ⊢
  have hla : a.length < l.length := by rw [he]; simp
  have ha : (mk l).extract 0 a.length = mk a := by
    rw [mk_ext, he]
    simp
  have hb : (mk l).extract (a.length + 1) l.length = mk b := by
    rw [mk_ext, he]
    congr 1
    rw [show a ++ 10 :: b = (a ++ [10]) ++ b by simp, show a.length + 1 = (a ++ [10]).length by simp, List.drop_left]
    exact List.take_of_length_le (by simp; omega)
  have hsz : (mk l).size = l.length := rfl
  clear he
  have hix : Lib.indexByte (mk l).data.toList 10 = a.length := h2
  clear h2
  obtain ⟨s, hs⟩ : ∃ s, mk l = s := ⟨_, rfl⟩
  rw [hs] at ha hb hsz hix ⊢
  clear hs
  go_enter Tryz.func61, Tryz.ntmps61
  go_wp2_with (go_at_call 86; refine (Tryz.stringslite_Index_one s 10 _).mono ?_; rintro e w' ⟨rfl, rfl⟩; rw [hix])
  go_quiet (fail)
  go_wp2
  go_ret3
  exact ⟨⟨_, rfl⟩, rfl⟩

set_option maxHeartbeats 1000000 in
theorem sCut_no (l : List UInt8) (w : World) (h1 : 10 ∉ l) : Calls Tryz.prog 32 #[.string (mk l), .string ⟨#[10]⟩] w (RetCutS w l [] false) := by
  go_enter Tryz.func32, Tryz.ntmps32
  go_wp2_with (go_at_call 61; refine (sliteCut_no l _ h1).mono ?_; rintro e w' ⟨⟨n, rfl⟩, rfl⟩)
  go_ret3
  exact ⟨⟨_, rfl⟩, rfl⟩
set_option maxHeartbeats 1000000 in
theorem sCut_at (a b : List UInt8) (w : World) (hl : (a ++ 10 :: b).length ≤ 65536) (h1 : 10 ∉ a) : Calls Tryz.prog 32 #[.string (mk (a ++ 10 :: b)), .string ⟨#[10]⟩] w (RetCutS w a b true) := by
  go_enter Tryz.func32, Tryz.ntmps32
  go_wp2_with (go_at_call 61; refine (sliteCut_at a b _ hl h1).mono ?_; rintro e w' ⟨⟨n, rfl⟩, rfl⟩)
  go_ret3
  exact ⟨⟨_, rfl⟩, rfl⟩

theorem info_str : (Tryz.prog.info? 9).map (fun i => (i.zero, i.size, i.bytes)) = some (some (.string ByteArray.empty), 1, 16) := by kernel_rfl

end Go.Proofs.YtfalbdlfopfgcaaGreatDoor

namespace Go.Proofs.YtfalbdlfopfgcaaGreatDoor
open Go.RowKit

/-- A word as told: text, line, column. -/
abbrev Tok := List UInt8 × Int × Int
def tokV (t : Tok) : List Value := [.string (mk t.1), .int .i64 t.2.1, .int .i64 t.2.2]
def cellsOf (r : List Tok) : List Value := r.flatMap tokV
/-- The words of a line, as told. -/
def rowT (i : Nat) (l : List UInt8) : List Tok := (wordsW l).map fun p => ((l.drop p.1).take (p.2 - p.1), (i : Int), (p.1 : Int))
theorem rowT_cells (i : Nat) (l : List UInt8) : toks (mk l) i (wordsW l) = cellsOf (rowT i l) := by
  unfold toks cellsOf rowT
  rw [List.flatMap_map]
  congr 1
  funext p
  unfold tokC tokV
  rw [mk_ext]
theorem rowT_len (i : Nat) (l : List UInt8) : (rowT i l).length = (wordsW l).length := by simp [rowT]
theorem cellsOf_len (r : List Tok) : (cellsOf r).length = r.length * 3 := by
  unfold cellsOf
  induction r with
  | nil => rfl
  | cons p ws ih => simp only [List.flatMap_cons, List.length_append, ih, tokV, List.length_cons, List.length_nil]; omega
theorem cellsOf_at : ∀ {r : List Tok} {k j : Nat} {t : Tok}, r[k]? = some t → j < 3 → (cellsOf r)[k * 3 + j]? = (tokV t)[j]? := by
  intro r
  induction r with
  | nil => intro k j t h; simp at h
  | cons p r ih =>
    intro k j t h hj
    have hc : cellsOf (p :: r) = tokV p ++ cellsOf r := by simp [cellsOf]
    rw [hc]
    cases k with
    | zero =>
      simp only [List.getElem?_cons_zero, Option.some.injEq] at h
      subst h
      rw [List.getElem?_append_left (by simp [tokV]; omega)]
      congr 1
      omega
    | succ k =>
      rw [List.getElem?_append_right (by simp [tokV]; omega)]
      rw [← ih (k := k) (j := j) (t := t) (by simpa using h) hj]
      congr 1
      simp [tokV]
      omega

theorem owns_mono {w : World} {base base' : Nat} {e : TypeId} {size : Nat} {v : Value} {n : Nat} {xs : List Value} (h : w.ownsRow base e size v n xs) (hb : base' ≤ base) : w.ownsRow base' e size v n xs := by
  refine ⟨h.1, ?_⟩
  rcases h.2 with h2 | ⟨g, cap, cur, rfl, hbg, r⟩
  · exact .inl h2
  · exact .inr ⟨g, cap, cur, rfl, by omega, r⟩

/-- V is a row of rows that read as 'rows', each in a block of its own, all from 'base' on. -/
structure Grid (w : World) (base : Nat) (V : Value) (rows : List (List Tok)) (vs : List Value) : Prop where
  len : vs.length = rows.length
  out : w.ownsRow base 35 1 V rows.length vs
  row : ∀ (i : Nat) (v : Value) (r : List Tok), vs[i]? = some v → rows[i]? = some r → w.ownsRow base 33 3 v r.length (cellsOf r)
  off : ∀ (i : Nat) (v : Value), vs[i]? = some v → v.ownBlock = none ∨ v.ownBlock ≠ V.ownBlock
  apart : ∀ (i j : Nat) (v u : Value), i ≠ j → vs[i]? = some v → vs[j]? = some u → v.ownBlock = none ∨ v.ownBlock ≠ u.ownBlock

theorem Grid.nil (w : World) (base : Nat) : Grid w base (.slice none 0 0) [] [] :=
  ⟨rfl, World.ownsRow_nil _ _ _ _, by simp, by simp, by simp⟩
theorem Grid.below {w w' : World} {base : Nat} {V : Value} {rows : List (List Tok)} {vs : List Value} (h : Grid w base V rows vs) (hb : Below w.heap.size w w') : Grid w' base V rows vs :=
  ⟨h.len, owns_below h.out hb, fun i v r h1 h2 => owns_below (h.row i v r h1 h2) hb, h.off, h.apart⟩
theorem Grid.mono {w : World} {base b' : Nat} {V : Value} {rows : List (List Tok)} {vs : List Value} (h : Grid w base V rows vs) (hb : b' ≤ base) : Grid w b' V rows vs :=
  ⟨h.len, owns_mono h.out hb, fun i v r h1 h2 => owns_mono (h.row i v r h1 h2) hb, h.off, h.apart⟩
theorem Grid.drewN {w : World} {base : Nat} {V : Value} {rows : List (List Tok)} {vs : List Value} (h : Grid w base V rows vs) (n : Nat) : Grid (w.drewN n) base V rows vs :=
  ⟨h.len, h.out, fun i v r h1 h2 => h.row i v r h1 h2, h.off, h.apart⟩
/-- Blocks below the base may turn. -/
theorem Grid.kept {w w' : World} {base : Nat} {V : Value} {rows : List (List Tok)} {vs : List Value} (h : Grid w base V rows vs) (hb : ∀ g, base ≤ g → g < w.heap.size → w'.heap[g]? = w.heap[g]?) : Grid w' base V rows vs := by
  have hk : ∀ {e size : Nat} {v : Value} {n : Nat} {xs : List Value}, w.ownsRow base e size v n xs → w'.ownsRow base e size v n xs := by
    intro e size v n xs h
    refine ⟨h.1, ?_⟩
    rcases h.2 with h2 | ⟨g, cap, cur, rfl, hbg, hg, r⟩
    · exact .inl h2
    · exact .inr ⟨g, cap, cur, rfl, hbg, by rw [hb g hbg (Array.getElem?_eq_some_iff.1 hg).1]; exact hg, r⟩
  exact ⟨h.len, hk h.out, fun i v r h1 h2 => hk (h.row i v r h1 h2), h.off, h.apart⟩

theorem info_row : (Tryz.prog.info? 35).map (fun i => (i.zero, i.size, i.bytes)) = some (some (.slice none 0 0), 1, 24) := by kernel_rfl

theorem getElem?_snoc {α : Type} {xs : List α} {x v : α} {i : Nat} (h : (xs ++ [x])[i]? = some v) : (i < xs.length ∧ xs[i]? = some v) ∨ (i = xs.length ∧ v = x) := by
  by_cases hi : i < xs.length
  · rw [List.getElem?_append_left hi] at h; exact .inl ⟨hi, h⟩
  · rw [List.getElem?_append_right (by omega)] at h
    have hlt := (List.getElem?_eq_some_iff.1 h).1
    simp only [List.length_singleton] at hlt
    have : i - xs.length = 0 := by omega
    rw [this] at h
    simp only [List.getElem?_cons_zero, Option.some.injEq] at h
    exact .inr ⟨by omega, h.symm⟩

theorem blk_alloc_lt' (w : World) (o : Obj) (k : Nat) (h : k < w.heap.size) : (w.alloc o).heap[k]? = w.heap[k]? := by
  show (w.heap.push o)[k]? = _
  rw [Array.getElem?_push, if_neg (by omega)]

/-- 'out = append(out, row)', the row made since. -/
theorem wpList_appG {ops : Array Oper} {rest : List Oper} {o : Oper} {a : Act} {Q : Exit → Act → World → Prop} {w0 : World} (hgd : o.guard = none) (s x : Operand) (t : TypeId)
    (ho : o.op = .call { callee := .builtin .append, args := #[s, x], argTypes := #[t, t] })
    (ht : Tryz.prog.underlying t = some (.slice 35))
    (w00 : World) (base : Nat) (V : Value) (rows : List (List Tok)) (vs : List Value) (hG : Grid w00 base V rows vs) (hbase : base ≤ w00.heap.size) (hB : Below w00.heap.size w00 w0)
    (v : Value) (r : List Tok) (hv : w0.ownsRow w00.heap.size 33 3 v r.length (cellsOf r)) (hvo : v.oneCell' = true)
    (hs : a.eval s = V) (hx : a.eval x = .slice (some ⟨w0.heap.size, 0, none⟩) 1 1) (hsz : rows.length ≤ 2000000)
    (h : ∀ V' w', Grid w' base V' (rows ++ [r]) (vs ++ [v]) → Below base w00 w' → w0.heap.size ≤ w'.heap.size → wpList Tryz.prog ops Q rest (a.put o.dst V') w') : wpList Tryz.prog ops Q (o :: rest) a (w0.alloc (.cells #[v] 35)) := by
  obtain ⟨i, hi, hz0, hz1, hz2⟩ := info_parts info_row
  have hG0 := hG.below hB
  have hsz0 := hB.size
  have hG1 : Grid (w0.alloc (.cells #[v] 35)) base V rows vs := hG0.kept (fun g _ hg => blk_alloc_lt' w0 _ g hg)
  refine wpList_append_own_at _ hgd s x t ho base 35 i (.slice none 0 0) 1 24 ht hi hz0 hz1 hz2 rfl (by decide) V rows.length vs hs hG1.out ⟨w0.heap.size, 0, none⟩ 1 1 [v] hx rfl (cell_new w0 v 35) (by simpa using hvo) (by unfold maxLen; omega) (by omega) (by simp; omega) ?_
  intro V' w' h1 h2 _ h4
  have hv1 : (w0.alloc (.cells #[v] 35)).ownsRow w00.heap.size 33 3 v r.length (cellsOf r) := hv.alloc _
  have hV : ∀ k, V.ownBlock = some k → base ≤ k ∧ k < w00.heap.size := fun k hk => hG.out.lt k hk
  have hvk : ∀ k, v.ownBlock = some k → w00.heap.size ≤ k ∧ k < w0.heap.size := fun k hk => hv.lt k hk
  have hbl : Below base w00 w' := by
    have hB' : Below base w00 w0 := ⟨hB.os, hB.tape, hB.output, hB.size, fun k hk => hB.block k (by omega)⟩
    exact (hB'.alloc (by omega) _).grown h2 (by simp; omega) (fun k hk => (hV k hk).1)
  refine h V' w' ⟨by simp [hG.len], by simpa using h1, ?_, ?_, ?_⟩ hbl (by have := h2.size; simp at this; omega)
  · intro i u q hu hq
    rcases getElem?_snoc hu with ⟨hi1, hu1⟩ | ⟨hi1, rfl⟩
    · rcases getElem?_snoc hq with ⟨hi2, hq1⟩ | ⟨hi2, rfl⟩
      · exact (hG1.row i u q hu1 hq1).kept h2 (hG.off i u hu1)
      · have := hG.len; omega
    · rcases getElem?_snoc hq with ⟨hi2, hq1⟩ | ⟨hi2, rfl⟩
      · have := hG.len; omega
      · refine (owns_mono hv1 hbase).kept h2 ?_
        cases hu : u.ownBlock with
        | none => exact .inl rfl
        | some k =>
          refine .inr fun e => ?_
          have h5 := hvk k hu
          have h6 := hV k e.symm
          omega
  · intro i u hu
    cases hub : u.ownBlock with
    | none => exact .inl rfl
    | some k =>
      refine .inr fun e => ?_
      rcases getElem?_snoc hu with ⟨hi1, hu1⟩ | ⟨hi1, rfl⟩
      · have hlt := (hG0.row i u _ hu1 (List.getElem?_eq_getElem (by have := hG.len; omega))).lt k hub
        rcases h4 with h4 | h4
        · rw [h4] at e
          rcases hG.off i u hu1 with h7 | h7
          · rw [h7] at hub; cases hub
          · exact h7 (hub.trans e)
        · rw [h4] at e
          cases e
          simp at hlt
          omega
      · have h5 := hvk k hub
        rcases h4 with h4 | h4
        · rw [h4] at e
          have h6 := hV k e.symm
          omega
        · rw [h4] at e
          cases e
          simp at h5
          omega
  · intro i j u q hij hu hq
    cases hub : u.ownBlock with
    | none => exact .inl rfl
    | some k =>
      refine .inr fun e => ?_
      rcases getElem?_snoc hu with ⟨hi1, hu1⟩ | ⟨hi1, rfl⟩
      · rcases getElem?_snoc hq with ⟨hi2, hq1⟩ | ⟨hi2, rfl⟩
        · rcases hG.apart i j u q hij hu1 hq1 with h7 | h7
          · rw [h7] at hub; cases hub
          · exact h7 (hub.trans e)
        · have h5 := hvk k e.symm
          have hlt := (hG.row i u _ hu1 (List.getElem?_eq_getElem (by have := hG.len; omega))).lt k hub
          omega
      · rcases getElem?_snoc hq with ⟨hi2, hq1⟩ | ⟨hi2, rfl⟩
        · have h5 := hvk k hub
          have hlt := (hG.row j q _ hq1 (List.getElem?_eq_getElem (by have := hG.len; omega))).lt k e.symm
          omega
        · omega
end Go.Proofs.YtfalbdlfopfgcaaGreatDoor

namespace Go.Proofs.YtfalbdlfopfgcaaGreatDoor
open Go.RowKit

def cutFrom : Nat → List (List UInt8) → Option (Int × Nat)
  | _, [] => none
  | i, l :: r => if errW l = 0 then cutFrom (i + 1) r else some (errW l, i)
/-- What a text is cut into: the rows, the error, its place. -/
def cutOut (s : List UInt8) : List (List Tok) × Int × Int :=
  if 65536 < s.length then ([], 3, -1) else match cutFrom 0 (lines s) with
  | none => ((lines s).mapIdx rowT, 0, 0)
  | some (e, i) => ([], e, i)
theorem cutFrom_app {D : List (List UInt8)} (h : ∀ l ∈ D, errW l = 0) : ∀ (i : Nat) (L : List (List UInt8)), cutFrom i (D ++ L) = cutFrom (i + D.length) L := by
  induction D with
  | nil => intro i L; simp
  | cons l D ih =>
    intro i L
    rw [List.cons_append, cutFrom, if_pos (h l (.head _)), ih (fun x hx => h x (.tail _ hx))]
    congr 1
    simp
    omega
theorem linesFrom_sub {r : List UInt8} : ∀ {cur : List UInt8}, ∀ l ∈ linesFrom cur r, l.length ≤ cur.length + r.length := by
  induction r with
  | nil =>
    intro cur l hl
    rw [linesFrom] at hl
    split at hl
    · cases hl
    · simp at hl; subst hl; simp
  | cons c r ih =>
    intro cur l hl
    rw [linesFrom] at hl
    split at hl
    · rcases List.mem_cons.1 hl with rfl | h
      · simp
      · have := ih (cur := []) l h; simp at this ⊢; omega
    · have := ih (cur := cur ++ [c]) l hl; simp at this ⊢; omega
theorem lines_sub {s l : List UInt8} (h : l ∈ lines s) : l.length ≤ s.length := by
  have := linesFrom_sub (cur := []) l h
  simpa using this
theorem linesFrom_count {r : List UInt8} : ∀ {cur : List UInt8}, (linesFrom cur r).length ≤ r.length + 1 := by
  induction r with
  | nil => intro cur; rw [linesFrom]; split <;> simp
  | cons c r ih =>
    intro cur
    rw [linesFrom]
    split
    · have := ih (cur := []); simp at this ⊢; omega
    · have := ih (cur := cur ++ [c]); simp at this ⊢; omega
theorem lines_count (s : List UInt8) : (lines s).length ≤ s.length + 1 := linesFrom_count

def RetCut (w : World) (s : List UInt8) (e : Ending) (w' : World) : Prop := ∃ V vs, e = .returned (.tuple #[V, .agg #[.int .i64 (cutOut s).2.1, .int .i64 (cutOut s).2.2]]) ∧ Grid w' w.heap.size V (cutOut s).1 vs ∧ Below w.heap.size w w'

theorem info_fault : (Tryz.prog.info? 25).map (fun i => (i.zero, i.size)) = some (some (.agg #[.int .i64 0, .int .i64 0]), 2) := by kernel_rfl

/-- The told cell for the fault. -/
def FaultAt (w : World) (b : Nat) (x y : Int) : Prop := w.heap[b]? = some (.cells #[.int .i64 x, .int .i64 y] 25 (0, 0))
theorem FaultAt.c0 {w : World} {b : Nat} {x y : Int} (h : FaultAt w b x y) : w.cell? ⟨b, 0, none⟩ = some (.int .i64 x) := by
  unfold FaultAt at h; simp [World.cell?, h]
theorem FaultAt.c1 {w : World} {b : Nat} {x y : Int} (h : FaultAt w b x y) : w.cell? ⟨b, 1, none⟩ = some (.int .i64 y) := by
  unfold FaultAt at h; simp [World.cell?, h]
theorem FaultAt.fr {w : World} {b : Nat} {x y : Int} (h : FaultAt w b x y) (j : Nat) : w.frozen? ⟨b, j, none⟩ = false := by
  unfold FaultAt at h; simp [World.frozen?, h]

theorem FaultAt.new (w : World) (x y : Int) : FaultAt (w.alloc (.cells #[.int .i64 x, .int .i64 y] 25)) w.heap.size x y := by
  show (w.heap.push _)[w.heap.size]? = _
  simp
theorem FaultAt.set2 {w : World} {b : Nat} {x y : Int} (h : FaultAt w b x y) (x' y' : Int) : FaultAt ((w.setCell ⟨b, 0, none⟩ (.int .i64 x')).setCell ⟨b, 1, none⟩ (.int .i64 y')) b x' y' := by
  unfold FaultAt at *
  simp [World.setCell, Array.getElem?_modify, h]
theorem FaultAt.below {w w' : World} {b : Nat} {x y : Int} (h : FaultAt w b x y) (hb : Below (b + 1) w w') : FaultAt w' b x y := by
  unfold FaultAt at *
  rw [hb.block b (by omega), h]
theorem blk_set (w : World) (a : Addr) (v : Value) (k : Nat) (h : k ≠ a.block) : (w.setCell a v).heap[k]? = w.heap[k]? := by
  simp only [World.setCell, Array.getElem?_modify]
  rw [if_neg (by omega)]
theorem Grid.set2 {w : World} {b B : Nat} {V : Value} {rows : List (List Tok)} {vs : List Value} (h : Grid w B V rows vs) (hB : b < B) (x' y' : Value) : Grid ((w.setCell ⟨b, 0, none⟩ x').setCell ⟨b, 1, none⟩ y') B V rows vs :=
  h.kept fun g h1 _ => by rw [blk_set _ _ _ _ (by simp; omega), blk_set _ _ _ _ (by simp; omega)]
theorem below_set2 {B : Nat} {w w' : World} {b : Nat} (h : Below B w w') (x' y' : Value) (hb : B ≤ b := by omega) : Below B w ((w'.setCell ⟨b, 0, none⟩ x').setCell ⟨b, 1, none⟩ y') :=
  (h.setCell hb _).setCell hb _
theorem below_mono {B B' : Nat} {w w' : World} (h : Below B w w') (hb : B' ≤ B) : Below B' w w' := ⟨h.os, h.tape, h.output, h.size, fun k hk => h.block k (by omega)⟩
theorem mk_list (l : List UInt8) : (mk l).toList = l := by rw [ByteArray.toList_eq]; rfl
theorem results_fault {fn : Func} {t p : Tmp} (h : fn.results = #[.tmp t, .cell p 25]) (tmps : Array Value) (w : World) (b : Nat) (x y : Int) (hp : tmps.getD p undef = .pointer (some ⟨b, 0, none⟩)) (hf : FaultAt w b x y) :
    (results fn tmps).run Tryz.prog w = .ok (.tuple #[tmps.getD t undef, .agg #[.int .i64 x, .int .i64 y]]) w := by
  have h0 := hf.c0
  have h1 := hf.c1
  simp only [Array.getD_eq_getD_getElem?] at hp ⊢
  simp [results, h, hp, go_sem, h0, h1, Sem.run_bind, Result.andThen]

theorem lines_step {r : List UInt8} (hr : r ≠ []) : ∃ a b f, lines r = a :: lines b ∧ b.length < r.length ∧ a.length ≤ r.length ∧ ∀ w, r.length ≤ 65536 → Calls Tryz.prog 32 #[.string (mk r), .string ⟨#[10]⟩] w (RetCutS w a b f) := by
  rcases index_cut r with ⟨h1, _⟩ | ⟨a, b, rfl, h1, _⟩
  · exact ⟨r, [], false, by rw [lines_no h1 hr]; rfl, List.length_pos_iff.2 hr, Nat.le_refl _, fun w _ => sCut_no r w h1⟩
  · exact ⟨a, b, true, lines_cut h1, by simp; omega, by simp, fun w h => sCut_at a b w h h1⟩

/-- What a function on a line hands back. -/
def RetR (w : World) (r : List Tok) (err : Int) (e : Ending) (w' : World) : Prop := ∃ ad n cap, e = .returned (.tuple #[.slice ad n cap, .int .i64 err]) ∧ w'.ownsRow w.heap.size 33 3 (.slice ad n cap) r.length (cellsOf r) ∧ Below w.heap.size w w'
theorem retR_of {w : World} {i : Nat} {a : List UInt8} {e : Ending} {w' : World} (h : RetW w (wordsW a).length (toks (mk a) i (wordsW a)) (errW a) e w') : RetR w (rowT i a) (errW a) e w' := by
  obtain ⟨v, h1, h2, h3⟩ := h
  rw [rowT_cells, ← rowT_len i a] at h2
  have h4 := h2.2
  rcases h4 with ⟨rfl, _⟩ | ⟨g, cap, cur, rfl, _⟩
  · exact ⟨_, _, _, h1, h2, h3⟩
  · exact ⟨_, _, _, h1, h2, h3⟩
theorem cutR_any (a : List UInt8) (i : Nat) (w : World) (h : a.length ≤ 65536) : Calls Tryz.prog 33 #[.string (mk a), .int .i64 i] w (RetR w (rowT i a) (errW a)) :=
  (cut_any (mk a) i w h).mono fun _ _ h => retR_of h
def strLen : Value → Nat
  | .string b => b.size
  | _ => 0

def CutsLoop (w : World) (s : List UInt8) (rest out line : Value) (wr : World) : Prop := ∃ (D : List (List UInt8)) (r : List UInt8) (vs : List Value), rest = .string (mk r) ∧ D ++ lines r = lines s ∧ line = .int .i64 D.length ∧ (∀ l ∈ D, errW l = 0) ∧
  D.length + r.length ≤ s.length ∧ Grid wr (w.heap.size + 1) out (D.mapIdx rowT) vs ∧ FaultAt wr w.heap.size 0 0 ∧ w.heap.size + 1 ≤ wr.heap.size ∧ Below w.heap.size w wr

set_option maxRecDepth 100000 in
set_option maxHeartbeats 1000000 in
theorem Cut_any (s : List UInt8) (w : World) (_hm : s.length ≤ maxLen) : Calls Tryz.prog 7 #[.string (mk s)] w (RetCut w s) := by
  by_cases hl : 65536 < s.length
  · have hsz : (mk s).size = s.length := rfl
    have hc : cutOut s = ([], 3, -1) := by unfold cutOut; rw [if_pos hl]
    have HC := hid hc
    clear hc
    generalize mk s = t at *
    go_enter Tryz.func7, Tryz.ntmps7
    go_wp2
    refine bodyPost_ret (results_fault rfl _ _ w.heap.size 3 (-1) rfl (FaultAt.new _ _ _)) rfl ?_
    unfold RetCut
    rw [HC.out]
    exact ⟨_, [], rfl, Grid.nil _ _, (Below.refl _ _).alloc (Nat.le_refl _) _⟩
  · have hl' : s.length ≤ 65536 := by omega
    have hsz : (mk s).size = s.length := rfl
    obtain ⟨t, ht⟩ : ∃ t, mk s = t := ⟨_, rfl⟩
    have HT := hid ht
    rw [ht] at hsz ⊢
    clear ht
    go_enter Tryz.func7, Tryz.ntmps7
    go_wp2
    go_loopw [0, 4, 5] (CutsLoop w s) (fun rest _ _ _ => strLen rest)
    case atStart => exact ⟨[], s, [], by rw [HT.out], rfl, rfl, by simp, by simp, Grid.nil _ _, FaultAt.new _ _ _, by simp, (Below.refl _ _).alloc (Nat.le_refl _) _⟩
    case round =>
      obtain ⟨D, r, vs, rfl, hl2, rfl, hD, hlen, hG, hF, hz, hb⟩ := hrel
      have HD := hid hD
      have HL := hid hl2
      have hc0 := hF.c0
      have hc1 := hF.c1
      have hf0 := hF.fr 0
      have hf1 := hF.fr 1
      have hrs : (mk r).size = r.length := rfl
      clear hD hl2
      cases r with
      | nil =>
        have hemp : (mk []).toList.isEmpty = true := by rw [mk_list]; rfl
        have hDD : lines s = D := by rw [← HL.out]; simp [lines, linesFrom]
        have hcut : cutOut s = (D.mapIdx rowT, 0, 0) := by
          unfold cutOut
          rw [if_neg hl, hDD]
          have := cutFrom_app (D := D) HD.out 0 []
          rw [List.append_nil] at this
          rw [this]
          rfl
        have HC := hid hcut
        clear hcut hDD
        generalize mk [] = rt at *
        go_wp2
        refine bodyPost_ret (results_fault rfl _ _ w.heap.size 0 0 rfl (hF.set2 0 0)) rfl ?_
        unfold RetCut
        rw [HC.out]
        exact ⟨_, vs, rfl, (hG.set2 (by omega) _ _).mono (by omega), below_set2 hb _ _⟩
      | cons c r' =>
        have hemp : (mk (c :: r')).toList.isEmpty = false := by rw [mk_list]; rfl
        obtain ⟨a, b, f, ha1, ha2, ha3, hcall⟩ := lines_step (r := c :: r') (by simp)
        have hrl : (c :: r').length ≤ 65536 := by omega
        have HA := hid ha1
        have HCL := hid hcall
        clear ha1 hcall
        obtain ⟨rl, hrl2⟩ : ∃ rl, rl = (c :: r').length := ⟨_, rfl⟩
        obtain ⟨rt, hrt⟩ : ∃ rt, rt = mk (c :: r') := ⟨_, rfl⟩
        rw [← hrt] at hemp hrs HCL ⊢
        rw [← hrl2] at hlen hrl hrs ha2 ha3
        have HRT := hid hrt
        have HRL := hid hrl2
        clear hrt hrl2
        by_cases herr : errW a = 0
        · go_wp2_with (first | (go_at_call 32; refine (HCL.out _ (by rw [← HRL.out]; exact hrl)).mono ?_; rintro e w' ⟨⟨n, rfl⟩, rfl⟩) | (go_at_call 33; refine (cutR_any a D.length _ (by omega)).mono ?_; rintro e w2 ⟨ad, sn, cap, rfl, hv, hvb⟩) | (at_builtin; refine wpList_appG rfl _ _ 22 rfl Tryz.underlying22 (wr.drewN n) (w.heap.size + 1) u4 _ vs (hG.drewN n) hz hvb (.slice ad sn cap) (rowT D.length a) hv rfl rfl rfl (by simp; omega) ?_; intro V' w' hG' hb' hz'))
          go_roundw
          case rel => exact ⟨D ++ [a], b, vs ++ [_], rfl, by rw [← HL.out, HA.out]; simp, by simp, by (intro l hl; rcases List.mem_append.1 hl with h | h; exact HD.out l h; rw [List.mem_singleton.1 h]; exact herr), by simp; omega, by simpa [List.mapIdx_append] using hG', hF.below (below_of_drewN hb'), by (simp at hvb; have := hvb.size; simp at this; omega), hb.trans (below_mono (below_of_drewN hb') (by omega))⟩
          case measure => simp only [strLen, mk_size, hrs]; exact ha2
        · have herr' : (errW a == 0) = false := by simpa using herr
          have hcut : cutOut s = ([], errW a, (D.length : Int)) := by
            unfold cutOut
            rw [if_neg hl, ← HL.out, HA.out, cutFrom_app HD.out, cutFrom, if_neg herr]
            simp
          have HC := hid hcut
          have HR := hid (fun w => cutR_any a D.length w)
          clear hcut herr
          generalize errW a = ev at *
          go_wp2_with (first | (go_at_call 32; refine (HCL.out _ (by rw [← HRL.out]; exact hrl)).mono ?_; rintro e w' ⟨⟨n, rfl⟩, rfl⟩) | (go_at_call 33; refine (HR.out _ (by omega)).mono ?_; rintro e w2 ⟨ad, sn, cap, rfl, hv, hvb⟩; have hF2 : FaultAt w2 w.heap.size 0 0 := hF.below (below_mono (below_of_drewN hvb) hz); have hd0 := hF2.c0; have hd1 := hF2.c1; have hg0 := hF2.fr 0; have hg1 := hF2.fr 1; clear hc0 hc1 hf0 hf1))
          refine bodyPost_ret (results_fault rfl _ _ w.heap.size ev D.length rfl (hF2.set2 _ _)) rfl ?_
          unfold RetCut
          rw [HC.out]
          exact ⟨_, [], rfl, Grid.nil _ _, below_set2 (hb.trans (below_mono (below_of_drewN hvb) (by simp; omega))) _ _⟩

theorem cutOut_small (s : List UInt8) : ∀ r ∈ (cutOut s).1, r.length ≤ 100000 := by
  intro r hr
  unfold cutOut at hr
  split at hr
  · cases hr
  · rename_i hl
    split at hr
    · simp only [List.mem_mapIdx] at hr
      obtain ⟨i, hi, rfl⟩ := hr
      rw [rowT_len]
      have h1 := wordsW_len (lines s)[i]
      have h2 := lines_sub (List.getElem_mem hi)
      omega
    · cases hr
end Go.Proofs.YtfalbdlfopfgcaaGreatDoor

namespace Go.Proofs.YtfalbdlfopfgcaaGreatDoor
open Go.RowKit

def SameO (w : World) (rows : List (List Tok)) (i : Value) (wr : World) : Prop := ∃ (k n : Nat), i = .int .i64 k ∧ k ≤ rows.length ∧ wr = w.drewN n
def SameI (w : World) (r : List Tok) (i : Value) (wr : World) : Prop := ∃ (k n : Nat), i = .int .i64 k ∧ k ≤ r.length ∧ wr = w.drewN n

/-- Reading a row of rows: the row's value, its cells. -/
theorem gridAt {w : World} {base : Nat} {V : Value} {rows : List (List Tok)} {vs : List Value} (h : Grid w base V rows vs) {i : Nat} {r : List Tok} (hr : rows[i]? = some r) :
    ∃ g cap ad sn sc, V = .slice (some ⟨g, 0, none⟩) rows.length cap ∧ base ≤ g ∧ w.cell? ⟨g, i, none⟩ = some (.slice ad r.length sc) ∧ vs[i]? = some (.slice ad r.length sc) ∧ (sn = rows.length ∧ rows.length ≤ maxLen ∧ r.length ≤ maxLen) ∧
      (∀ k t, r[k]? = some t → ∃ b, ad = some ⟨b, 0, none⟩ ∧ base ≤ b ∧ w.cell? ⟨b, k * 3, none⟩ = some (.string (mk t.1)) ∧ w.cell? ⟨b, k * 3 + 1, none⟩ = some (.int .i64 t.2.1) ∧ w.cell? ⟨b, k * 3 + 2, none⟩ = some (.int .i64 t.2.2)) := by
  have hi := (List.getElem?_eq_some_iff.1 hr).1
  have ho := h.out
  rcases ho.2 with ⟨_, h0⟩ | ⟨g, cap, cur, rfl, hb, hg, hn1, hn2, r1⟩
  · omega
  · obtain ⟨v, hv⟩ : ∃ v, vs[i]? = some v := ⟨vs[i]'(by have := h.len; omega), by simp⟩
    have hrow := h.row i v r hv hr
    have hc : w.cell? ⟨g, i, none⟩ = some v := by rw [ho.cellAt i (by omega)]; exact hv
    rcases hrow.2 with ⟨rfl, h0⟩ | ⟨b, cap2, cur2, rfl, hb2, hg2, hm1, hm2, r2⟩
    · refine ⟨g, cap, none, _, 0, rfl, hb, by rw [hc, h0], by rw [hv, h0], ⟨rfl, by omega, by omega⟩, ?_⟩
      intro k t hk
      have := (List.getElem?_eq_some_iff.1 hk).1
      omega
    · refine ⟨g, cap, some ⟨b, 0, none⟩, _, cap2, rfl, hb, hc, hv, ⟨rfl, by omega, by omega⟩, ?_⟩
      intro k t hk
      have hkl := (List.getElem?_eq_some_iff.1 hk).1
      refine ⟨b, rfl, hb2, ?_, ?_, ?_⟩
      · rw [hrow.cellAt (k * 3) (by omega), show k * 3 = k * 3 + 0 from rfl, cellsOf_at hk (by omega)]; rfl
      · rw [hrow.cellAt (k * 3 + 1) (by omega), cellsOf_at hk (by omega)]; rfl
      · rw [hrow.cellAt (k * 3 + 2) (by omega), cellsOf_at hk (by omega)]; rfl
theorem gridV {w : World} {base : Nat} {V : Value} {rows : List (List Tok)} {vs : List Value} (h : Grid w base V rows vs) : ∃ ad cap, V = .slice ad rows.length cap := by
  rcases h.out.2 with ⟨rfl, h0⟩ | ⟨g, cap, cur, rfl, hb, hg, r1⟩
  · exact ⟨none, 0, by rw [h0]⟩
  · exact ⟨_, cap, rfl⟩

theorem drewN_two (w : World) (n m : Nat) : (w.drewN n).drewN m = w.drewN (n + m) := by simp [World.drewN, Nat.add_assoc]

set_option maxHeartbeats 2000000 in
theorem same_any (w : World) (b1 b2 : Nat) (A B : Value) (rows : List (List Tok)) (va vb : List Value) (hA : Grid w b1 A rows va) (hB : Grid w b2 B rows vb) :
    Calls Tryz.prog 10 #[A, B] w fun e w' => e = .returned (.bool true) ∧ ∃ n, w' = w.drewN n := by
  obtain ⟨aa, ca, hVA⟩ := gridV hA
  obtain ⟨ab, cb, hVB⟩ := gridV hB
  subst hVA hVB
  have GA := hid hA
  have GB := hid hB
  clear hA hB
  go_enter Tryz.func10, Tryz.ntmps10
  go_wp2
  go_loopw [5, 6] (fun i _ wr => SameO w rows i wr) (fun i _ _ => rows.length + 1 - (intOf i).toNat)
  case atStart => exact ⟨0, 0, rfl, by omega, rfl⟩
  case round =>
    obtain ⟨i, n, rfl, hi, rfl⟩ := hrel
    by_cases hil : i < rows.length
    · obtain ⟨r, hr⟩ : ∃ r, rows[i]? = some r := ⟨rows[i]'hil, by simp⟩
      obtain ⟨ga, cap1, ad1, _, sc1, e1, _, hc1, _, ⟨_, hl1, hl2⟩, ht1⟩ := gridAt GA.out hr
      obtain ⟨gb, cap2, ad2, _, sc2, e2, _, hc2, _, _, ht2⟩ := gridAt GB.out hr
      unfold maxLen at hl1 hl2
      cases e1
      cases e2
      have HT1 := hid ht1
      have HT2 := hid ht2
      clear ht1 ht2 hr
      go_wp2
      go_quiet (fail)
      go_wp2
      go_loopw [6] (fun k wr => SameI w r k wr) (fun k _ => r.length + 1 - (intOf k).toNat)
      case atStart => exact ⟨0, _, rfl, by omega, drewN_two _ _ _⟩
      case round =>
        obtain ⟨k, n, rfl, hk, rfl⟩ := hrel
        by_cases hkl : k < r.length
        · obtain ⟨t, ht⟩ : ∃ t, r[k]? = some t := ⟨r[k]'hkl, by simp⟩
          obtain ⟨ba, rfl, _, x0, x1, x2⟩ := HT1.out k t ht
          obtain ⟨bb, rfl, _, y0, y1, y2⟩ := HT2.out k t ht
          clear ht
          go_wp2
          go_quiet (fail)
          go_wp2
          go_roundw
          case rel => exact ⟨k + 1, _, by go_num, by omega, rfl⟩
          case measure => simp [intOf] <;> omega
        · obtain rfl : k = r.length := by omega
          go_wp2
          go_roundw
          case rel => exact ⟨i + 1, _, by go_num, by omega, rfl⟩
          case measure => simp [intOf] <;> omega
    · obtain rfl : i = rows.length := by omega
      go_wp2
      go_ret
      exact ⟨rfl, _, rfl⟩
end Go.Proofs.YtfalbdlfopfgcaaGreatDoor
