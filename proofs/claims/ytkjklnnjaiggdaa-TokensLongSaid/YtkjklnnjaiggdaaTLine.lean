/- The lines of a text: strings.Cut at byte 10 and the reference's Lines. No condition but that a text is no longer than a text can be. -/
import Derived.Test.YtkjklnnjaiggdaaTWord
import Derived.Test.YtkjklnnjaiggdaaShelf
namespace Go.Proofs.Ytkjklnnjaiggdaa
open Go.RowKit

def mk (l : List UInt8) : ByteArray := ⟨l.toArray⟩
@[simp] theorem mk_toList (l : List UInt8) : (mk l).data.toList = l := rfl
@[simp] theorem mk_size (l : List UInt8) : (mk l).size = l.length := rfl
theorem mk_of (s : ByteArray) : mk s.data.toList = s := by cases s; simp [mk]
theorem mk_inj {a b : List UInt8} : mk a = mk b ↔ a = b := ⟨fun h => by simpa using congrArg (fun s : ByteArray => s.data.toList) h, fun h => by rw [h]⟩
theorem mk_ext (l : List UInt8) (i j : Nat) : (mk l).extract i j = mk ((l.drop i).take (j - i)) := by
  rw [← mk_of ((mk l).extract i j)]
  congr 1
  rw [ByteArray.data_extract, Array.toList_extract, List.extract_eq_take_drop]
  rfl
theorem str_of (s : ByteArray) : ∃ l, s = mk l := ⟨s.data.toList, (mk_of s).symm⟩

def linesFrom : List UInt8 → List UInt8 → List (List UInt8)
  | cur, [] => if cur = [] then [] else [cur]
  | cur, c :: r => if c = 10 then cur :: linesFrom [] r else linesFrom (cur ++ [c]) r
def lines (l : List UInt8) : List (List UInt8) := linesFrom [] l
theorem linesFrom_no {r : List UInt8} : ∀ {cur : List UInt8}, 10 ∉ r → linesFrom cur r = if cur ++ r = [] then [] else [cur ++ r] := by
  induction r with
  | nil => intro cur _; simp [linesFrom]
  | cons c r ih =>
    intro cur h
    simp only [List.mem_cons, not_or] at h
    rw [linesFrom, if_neg (fun e => h.1 e.symm), ih h.2]
    simp
theorem linesFrom_cut {a b : List UInt8} : ∀ {cur : List UInt8}, 10 ∉ a → linesFrom cur (a ++ 10 :: b) = (cur ++ a) :: lines b := by
  induction a with
  | nil => intro cur _; simp [linesFrom, lines]
  | cons c a ih =>
    intro cur h
    simp only [List.mem_cons, not_or] at h
    rw [List.cons_append, linesFrom, if_neg (fun e => h.1 e.symm), ih h.2]
    simp
theorem lines_no {r : List UInt8} (h : 10 ∉ r) (hr : r ≠ []) : lines r = [r] := by
  unfold lines; rw [linesFrom_no h]; simp [hr]
theorem lines_cut {a b : List UInt8} (h : 10 ∉ a) : lines (a ++ 10 :: b) = a :: lines b := by
  unfold lines; rw [linesFrom_cut h]; simp [lines]

/-- Where a byte 10 is first met. -/
theorem index_cut (l : List UInt8) : (10 ∉ l ∧ Lib.indexByte l 10 = -1) ∨ ∃ a b, l = a ++ 10 :: b ∧ 10 ∉ a ∧ Lib.indexByte l 10 = a.length := by
  induction l with
  | nil => exact .inl ⟨by simp, rfl⟩
  | cons c l ih =>
    by_cases hc : c = 10
    · subst hc
      exact .inr ⟨[], l, rfl, by simp, by simp [Lib.indexByte]⟩
    · rcases ih with ⟨h1, h2⟩ | ⟨a, b, rfl, h1, h2⟩
      · refine .inl ⟨by simp only [List.mem_cons, not_or]; exact ⟨fun e => hc e.symm, h1⟩, ?_⟩
        simp [Lib.indexByte, hc, h2]
      · refine .inr ⟨c :: a, b, rfl, by simp only [List.mem_cons, not_or]; exact ⟨fun e => hc e.symm, h1⟩, ?_⟩
        have : ((a.length : Int) == -1) = false := by simp only [beq_eq_false_iff_ne]; omega
        simp [Lib.indexByte, hc, h2, this]

theorem index_no {l : List UInt8} (h : 10 ∉ l) : Lib.indexByte l 10 = -1 := by
  rcases index_cut l with ⟨_, h2⟩ | ⟨a, b, rfl, _, _⟩
  · exact h2
  · simp at h
theorem index_at {a b : List UInt8} (h : 10 ∉ a) : Lib.indexByte (a ++ 10 :: b) 10 = a.length := by
  induction a with
  | nil => simp [Lib.indexByte]
  | cons c a ih =>
    simp only [List.mem_cons, not_or] at h
    have := ih h.2
    have h2 : ((a.length : Int) == -1) = false := by simp only [beq_eq_false_iff_ne]; omega
    have h3 : (c == 10) = false := by simp only [beq_eq_false_iff_ne]; exact fun e => h.1 e.symm
    rw [List.cons_append, Lib.indexByte, h3, this, h2]
    simp

/-- What strings.Cut at byte 10 gives. -/
def RetCutS (w : World) (a b : List UInt8) (f : Bool) (e : Ending) (w' : World) : Prop := (∃ n, w' = w.drewN n) ∧ e = .returned (.tuple #[.string (mk a), .string (mk b), .bool f])

set_option maxHeartbeats 1000000 in
theorem sliteCut_no (l : List UInt8) (w : World) (h1 : 10 ∉ l) : Calls Try.prog 21 #[.string (mk l), .string ⟨#[10]⟩] w (RetCutS w l [] false) := by
  have h2 := index_no h1
  clear h1
  go_enter Try.func21, Try.ntmps21
  go_wp2_with (go_at_call 30; refine (Try.stringslite_Index_one (mk l) 10 _).mono ?_; rintro e w' ⟨rfl, rfl⟩; rw [mk_toList, h2])
  go_ret3
  exact ⟨⟨0, rfl⟩, rfl⟩
set_option maxHeartbeats 1000000 in
theorem sliteCut_at (a b : List UInt8) (w : World) (hl : (a ++ 10 :: b).length ≤ 65536) (h1 : 10 ∉ a) : Calls Try.prog 21 #[.string (mk (a ++ 10 :: b)), .string ⟨#[10]⟩] w (RetCutS w a b true) := by
  have h2 := index_at (b := b) h1
  clear h1
  obtain ⟨l, he⟩ : ∃ l, l = a ++ 10 :: b := ⟨_, rfl⟩
  rw [← he] at h2 hl ⊢
  have hla : a.length < l.length := by rw [he]; simp
  have ha : (mk l).extract 0 a.length = mk a := by
    rw [mk_ext, he]
    simp
  have hb : (mk l).extract (a.length + 1) l.length = mk b := by
    rw [mk_ext, he]
    congr 1
    rw [show a ++ 10 :: b = (a ++ [10]) ++ b by simp, show a.length + 1 = (a ++ [10]).length by simp, List.drop_left]
    exact List.take_of_length_le (by simp; omega)
  have hsz : (mk l).size = l.length := rfl
  clear he
  have hix : Lib.indexByte (mk l).data.toList 10 = a.length := h2
  clear h2
  obtain ⟨s, hs⟩ : ∃ s, mk l = s := ⟨_, rfl⟩
  rw [hs] at ha hb hsz hix ⊢
  clear hs
  go_enter Try.func21, Try.ntmps21
  go_wp2_with (go_at_call 30; refine (Try.stringslite_Index_one s 10 _).mono ?_; rintro e w' ⟨rfl, rfl⟩; rw [hix])
  go_quiet (fail)
  go_wp2
  go_ret3
  exact ⟨⟨_, rfl⟩, rfl⟩

set_option maxHeartbeats 1000000 in
theorem sCut_no (l : List UInt8) (w : World) (h1 : 10 ∉ l) : Calls Try.prog 10 #[.string (mk l), .string ⟨#[10]⟩] w (RetCutS w l [] false) := by
  go_enter Try.func10, Try.ntmps10
  go_wp2_with (go_at_call 21; refine (sliteCut_no l _ h1).mono ?_; rintro e w' ⟨⟨n, rfl⟩, rfl⟩)
  go_ret3
  exact ⟨⟨_, rfl⟩, rfl⟩
set_option maxHeartbeats 1000000 in
theorem sCut_at (a b : List UInt8) (w : World) (hl : (a ++ 10 :: b).length ≤ 65536) (h1 : 10 ∉ a) : Calls Try.prog 10 #[.string (mk (a ++ 10 :: b)), .string ⟨#[10]⟩] w (RetCutS w a b true) := by
  go_enter Try.func10, Try.ntmps10
  go_wp2_with (go_at_call 21; refine (sliteCut_at a b _ hl h1).mono ?_; rintro e w' ⟨⟨n, rfl⟩, rfl⟩)
  go_ret3
  exact ⟨⟨_, rfl⟩, rfl⟩

/-- The reference's lines: those behind byte 10, the one that is open. -/
def LinesLoop (w : World) (s : List UInt8) (out from_ i : Value) (wr : World) : Prop := ∃ (k f : Nat) (D : List (List UInt8)), i = .int .i64 k ∧ from_ = .int .i64 f ∧ f ≤ k ∧ k ≤ s.length ∧ D.length ≤ k ∧
  D ++ linesFrom ((s.drop f).take (k - f)) (s.drop k) = lines s ∧ wr.ownsRow w.heap.size 9 1 out D.length (D.map fun l => .string (mk l)) ∧ Below w.heap.size w wr

theorem info_str : (Try.prog.info? 9).map (fun i => (i.zero, i.size, i.bytes)) = some (some (.string ByteArray.empty), 1, 16) := by kernel_rfl

set_option maxHeartbeats 1000000 in
theorem Lines_any (s : List UInt8) (w : World) (hl : s.length ≤ 65536) : Calls Try.prog 12 #[.string (mk s)] w fun e w' => ∃ v, e = .returned v ∧ w'.ownsRow w.heap.size 9 1 v (lines s).length ((lines s).map fun l => .string (mk l)) ∧ Below w.heap.size w w' := by
  have hsz : (mk s).size = s.length := rfl
  obtain ⟨t, ht⟩ : ∃ t, mk s = t := ⟨_, rfl⟩
  rw [ht] at hsz ⊢
  have hsl : ∀ i j, t.extract i j = mk ((s.drop i).take (j - i)) := by intro i j; rw [← ht, mk_ext]
  have hat : ∀ (k : Nat) (hk : k < t.size), s[k]? = some (t[k]'hk) := by
    intro k hk
    subst ht
    have : (mk s).data.toList[k]? = some ((mk s)[k]'hk) := by
      rw [Array.getElem?_toList]
      exact Array.getElem?_eq_getElem hk
    exact this
  have HT := hid ht
  have HA := hid hat
  have HX := hid hsl
  clear ht hat hsl
  go_enter Try.func12, Try.ntmps12
  go_wp2
  go_loopw [3, 4, 5] (LinesLoop w s) (fun _ _ i _ => s.length + 1 - (intOf i).toNat)
  case atStart => exact ⟨0, 0, [], rfl, rfl, by omega, by omega, by simp, by simp [lines], World.ownsRow_nil _ _ _ _, Below.refl _ _⟩
  case round =>
    obtain ⟨k, f, D, rfl, rfl, hfk, hk, hD, hl2, hown, hb⟩ := hrel
    have hz := hb.size
    have HL := hid hl2
    clear hl2
    by_cases hkl : k < s.length
    · have hks : k < t.size := by omega
      have hc := HA.out k hks
      have hdrop : s.drop k = t[k]'hks :: s.drop (k + 1) := by
        rw [List.drop_eq_getElem_cons hkl]
        congr 1
        rw [List.getElem?_eq_getElem hkl] at hc
        exact Option.some.inj hc
      obtain ⟨c, hcc⟩ : ∃ c, t[k]'hks = c := ⟨_, rfl⟩
      have hcn : (t[k]'hks).toNat = c.toNat := by rw [hcc]
      rw [hcc] at hdrop
      by_cases h10 : c = 10
      · have hm : c.toNat = 10 := by rw [h10]; rfl
        have hnx : D ++ [(s.drop f).take (k - f)] ++ linesFrom [] (s.drop (k + 1)) = lines s := by
          rw [← HL.out, hdrop, linesFrom, if_pos h10]
          simp
        have HN := hid hnx
        rw [hm] at hcn
        clear hcc hdrop hc hnx h10 hm
        go_wp2_with (at_builtin; refine wpList_app1 rfl _ _ 39 rfl w.heap.size 9 _ 16 Try.underlying39 info_str rfl _ D.length _ (.string _) rfl rfl rfl (by exact hown) (by first | omega | (simp; omega)) (by first | omega | (simp; omega)) (by first | omega | (simp; omega)) ?_; intro v' w' h1 h2 h3)
        go_roundw
        case rel => exact ⟨k + 1, k + 1, D ++ [(s.drop f).take (k - f)], by go_num, by go_num, by omega, by omega, by simp; omega, by rw [Nat.sub_self, List.take_zero, HN.out], by rw [HX.out] at h1; simpa using h1, hb.trans h2⟩
        case measure => simp [intOf] <;> omega
      · have hm : ((c.toNat : Int) == 10) = false := by
          simp only [beq_eq_false_iff_ne, ne_eq]
          intro e
          exact h10 (UInt8.toNat_inj.1 (by exact_mod_cast e))
        have hnx : D ++ linesFrom ((s.drop f).take (k + 1 - f)) (s.drop (k + 1)) = lines s := by
          rw [← HL.out, hdrop, linesFrom, if_neg h10]
          congr 2
          rw [show k + 1 - f = (k - f) + 1 by omega, List.take_add_one]
          congr 1
          rw [List.getElem?_drop, show f + (k - f) = k by omega, hc, hcc]
          rfl
        have HN := hid hnx
        generalize c.toNat = m at *
        clear hcc hdrop hc hnx h10
        go_wp2
        go_roundw
        case rel => exact ⟨k + 1, f, D, by go_num, by go_num, by omega, by omega, by omega, HN.out, hown, hb⟩
        case measure => simp [intOf] <;> omega
    · obtain rfl : k = s.length := by omega
      have hend : D ++ linesFrom (s.drop f) [] = lines s := by
        rw [← HL.out, List.drop_length, List.take_of_length_le (by simp)]
      by_cases hf : f < s.length
      · have hne : ¬ s.drop f = [] := by
          intro e
          have := congrArg List.length e
          simp at this
          omega
        rw [linesFrom, if_neg hne] at hend
        have HE := hid hend
        clear hend hne
        go_wp2_with (at_builtin; refine wpList_app1 rfl _ _ 39 rfl w.heap.size 9 _ 16 Try.underlying39 info_str rfl _ D.length _ (.string _) rfl rfl rfl (by exact hown) (by first | omega | (simp; omega)) (by first | omega | (simp; omega)) (by first | omega | (simp; omega)) ?_; intro v' w' h1 h2 h3)
        go_ret
        rw [← HE.out]
        refine ⟨_, rfl, ?_, hb.trans h2⟩
        rw [HX.out, List.take_of_length_le (by simp)] at h1
        simpa using h1
      · have he : s.drop f = [] := List.drop_eq_nil_of_le (by omega)
        rw [linesFrom, if_pos he, List.append_nil] at hend
        have HE := hid hend
        clear hend he
        go_wp2
        go_ret
        rw [← HE.out]
        exact ⟨_, rfl, by simpa using hown, hb⟩
end Go.Proofs.Ytkjklnnjaiggdaa
