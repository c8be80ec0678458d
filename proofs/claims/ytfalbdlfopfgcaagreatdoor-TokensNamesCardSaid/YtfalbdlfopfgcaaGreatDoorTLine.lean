/- The lines of a text: strings.Cut at byte 10 and the reference's Lines. No condition but that a text is no longer than a text can be. -/
import Derived.Test.YtfalbdlfopfgcaaGreatDoorTPos
import Derived.Test.YtfalbdlfopfgcaaGreatDoorShelf
namespace Go.Proofs.YtfalbdlfopfgcaaGreatDoor
open Go.RowKit

def mk (l : List UInt8) : ByteArray := ⟨l.toArray⟩
@[simp] theorem mk_toList (l : List UInt8) : (mk l).data.toList = l := rfl
@[simp] theorem mk_size (l : List UInt8) : (mk l).size = l.length := rfl
theorem mk_of (s : ByteArray) : mk s.data.toList = s := by cases s; simp [mk]
theorem mk_inj {a b : List UInt8} : mk a = mk b ↔ a = b := ⟨fun h => by simpa using congrArg (fun s : ByteArray => s.data.toList) h, fun h => by rw [h]⟩
theorem mk_ext (l : List UInt8) (i j : Nat) : (mk l).extract i j = mk ((l.drop i).take (j - i)) := by
  rw [← mk_of ((mk l).extract i j)]
  congr 1
  rw [ByteArray.data_extract, Array.toList_extract, List.extract_eq_take_drop]
  rfl
theorem str_of (s : ByteArray) : ∃ l, s = mk l := ⟨s.data.toList, (mk_of s).symm⟩

def linesFrom : List UInt8 → List UInt8 → List (List UInt8)
  | cur, [] => if cur = [] then [] else [cur]
  | cur, c :: r => if c = 10 then cur :: linesFrom [] r else linesFrom (cur ++ [c]) r
def lines (l : List UInt8) : List (List UInt8) := linesFrom [] l
theorem linesFrom_no {r : List UInt8} : ∀ {cur : List UInt8}, 10 ∉ r → linesFrom cur r = if cur ++ r = [] then [] else [cur ++ r] := by
  induction r with
  | nil => intro cur _; simp [linesFrom]
  | cons c r ih =>
    intro cur h
    simp only [List.mem_cons, not_or] at h
    rw [linesFrom, if_neg (fun e => h.1 e.symm), ih h.2]
    simp
theorem linesFrom_cut {a b : List UInt8} : ∀ {cur : List UInt8}, 10 ∉ a → linesFrom cur (a ++ 10 :: b) = (cur ++ a) :: lines b := by
  induction a with
  | nil => intro cur _; simp [linesFrom, lines]
  | cons c a ih =>
    intro cur h
    simp only [List.mem_cons, not_or] at h
    rw [List.cons_append, linesFrom, if_neg (fun e => h.1 e.symm), ih h.2]
    simp
theorem lines_no {r : List UInt8} (h : 10 ∉ r) (hr : r ≠ []) : lines r = [r] := by
  unfold lines; rw [linesFrom_no h]; simp [hr]
theorem lines_cut {a b : List UInt8} (h : 10 ∉ a) : lines (a ++ 10 :: b) = a :: lines b := by
  unfold lines; rw [linesFrom_cut h]; simp [lines]

/-- Where a byte 10 is first met. -/
theorem index_cut (l : List UInt8) : (10 ∉ l ∧ Lib.indexByte l 10 = -1) ∨ ∃ a b, l = a ++ 10 :: b ∧ 10 ∉ a ∧ Lib.indexByte l 10 = a.length := by
  induction l with
  | nil => exact .inl ⟨by simp, rfl⟩
  | cons c l ih =>
    by_cases hc : c = 10
    · subst hc
      exact .inr ⟨[], l, rfl, by simp, by simp [Lib.indexByte]⟩
    · rcases ih with ⟨h1, h2⟩ | ⟨a, b, rfl, h1, h2⟩
      · refine .inl ⟨by simp only [List.mem_cons, not_or]; exact ⟨fun e => hc e.symm, h1⟩, ?_⟩
        simp [Lib.indexByte, hc, h2]
      · refine .inr ⟨c :: a, b, rfl, by simp only [List.mem_cons, not_or]; exact ⟨fun e => hc e.symm, h1⟩, ?_⟩
        have : ((a.length : Int) == -1) = false := by simp only [beq_eq_false_iff_ne]; omega
        simp [Lib.indexByte, hc, h2, this]

theorem index_no {l : List UInt8} (h : 10 ∉ l) : Lib.indexByte l 10 = -1 := by
  rcases index_cut l with ⟨_, h2⟩ | ⟨a, b, rfl, _, _⟩
  · exact h2
  · simp at h
theorem index_at {a b : List UInt8} (h : 10 ∉ a) : Lib.indexByte (a ++ 10 :: b) 10 = a.length := by
  induction a with
  | nil => simp [Lib.indexByte]
  | cons c a ih =>
    simp only [List.mem_cons, not_or] at h
    have := ih h.2
    have h2 : ((a.length : Int) == -1) = false := by simp only [beq_eq_false_iff_ne]; omega
    have h3 : (c == 10) = false := by simp only [beq_eq_false_iff_ne]; exact fun e => h.1 e.symm
    rw [List.cons_append, Lib.indexByte, h3, this, h2]
    simp

/-- What strings.Cut at byte 10 gives. -/
def RetCutS (w : World) (a b : List UInt8) (f : Bool) (e : Ending) (w' : World) : Prop := (∃ n, w' = w.drewN n) ∧ e = .returned (.tuple #[.string (mk a), .string (mk b), .bool f])

set_option maxHeartbeats 1000000 in
theorem sliteCut_no (l : List UInt8) (w : World) (h1 : 10 ∉ l) : Calls Tryz.prog 61 #[.string (mk l), .string ⟨#[10]⟩] w (RetCutS w l [] false) := by
  have h2 := index_no h1
  clear h1
  go_enter Tryz.func61, Tryz.ntmps61
  go_wp2_with (go_at_call 86; refine (Tryz.stringslite_Index_one (mk l) 10 _).mono ?_; rintro e w' ⟨rfl, rfl⟩; rw [mk_toList, h2])
  go_ret3
  exact ⟨⟨0, rfl⟩, rfl⟩
set_option maxHeartbeats 1000000 in
theorem sliteCut_at (a b : List UInt8) (w : World) (hl : (a ++ 10 :: b).length ≤ 65536) (h1 : 10 ∉ a) : Calls Tryz.prog 61 #[.string (mk (a ++ 10 :: b)), .string ⟨#[10]⟩] w (RetCutS w a b true) := by
  have h2 := index_at (b := b) h1
  clear h1
  obtain ⟨l, he⟩ : ∃ l, l = a ++ 10 :: b := ⟨_, rfl⟩
  rw [← he] at h2 hl ⊢
  have hla : a.length < l.length := by rw [he]; simp
  have ha : (mk l).extract 0 a.length = mk a := by
    rw [mk_ext, he]
    simp
  have hb : (mk l).extract (a.length + 1) l.length = mk b := by
    rw [mk_ext, he]
    congr 1
    rw [show a ++ 10 :: b = (a ++ [10]) ++ b by simp, show a.length + 1 = (a ++ [10]).length by simp, List.drop_left]
    exact List.take_of_length_le (by simp; omega)
  have hsz : (mk l).size = l.length := rfl
  clear he
  have hix : Lib.indexByte (mk l).data.toList 10 = a.length := h2
  clear h2
  obtain ⟨s, hs⟩ : ∃ s, mk l = s := ⟨_, rfl⟩
  rw [hs] at ha hb hsz hix ⊢
  clear hs
  go_enter Tryz.func61, Tryz.ntmps61
  go_wp2_with (go_at_call 86; refine (Tryz.stringslite_Index_one s 10 _).mono ?_; rintro e w' ⟨rfl, rfl⟩; rw [hix])
  go_quiet (fail)
  go_wp2
  go_ret3
  exact ⟨⟨_, rfl⟩, rfl⟩

set_option maxHeartbeats 1000000 in
theorem sCut_no (l : List UInt8) (w : World) (h1 : 10 ∉ l) : Calls Tryz.prog 32 #[.string (mk l), .string ⟨#[10]⟩] w (RetCutS w l [] false) := by
  go_enter Tryz.func32, Tryz.ntmps32
  go_wp2_with (go_at_call 61; refine (sliteCut_no l _ h1).mono ?_; rintro e w' ⟨⟨n, rfl⟩, rfl⟩)
  go_ret3
  exact ⟨⟨_, rfl⟩, rfl⟩
set_option maxHeartbeats 1000000 in
theorem sCut_at (a b : List UInt8) (w : World) (hl : (a ++ 10 :: b).length ≤ 65536) (h1 : 10 ∉ a) : Calls Tryz.prog 32 #[.string (mk (a ++ 10 :: b)), .string ⟨#[10]⟩] w (RetCutS w a b true) := by
  go_enter Tryz.func32, Tryz.ntmps32
  go_wp2_with (go_at_call 61; refine (sliteCut_at a b _ hl h1).mono ?_; rintro e w' ⟨⟨n, rfl⟩, rfl⟩)
  go_ret3
  exact ⟨⟨_, rfl⟩, rfl⟩

theorem info_str : (Tryz.prog.info? 9).map (fun i => (i.zero, i.size, i.bytes)) = some (some (.string ByteArray.empty), 1, 16) := by kernel_rfl

end Go.Proofs.YtfalbdlfopfgcaaGreatDoor

