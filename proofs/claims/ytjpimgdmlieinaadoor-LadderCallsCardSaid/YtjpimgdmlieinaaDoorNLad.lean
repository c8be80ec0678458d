/- ladder.elements: a ladder's elements. Condition: as many in series as in shunt, at most 16. -/
import Derived.Test.YtjpimgdmlieinaaDoorNOfK
import Derived.Test.YtjpimgdmlieinaaDoorStore
import Derived.Test.YtjpimgdmlieinaaDoorShelf
import Derived.StillTailTactics
import Derived.Deep.AppendLies
namespace Go.Proofs.YtjpimgdmlieinaaDoor
open Go.RowKit

/-- The ladder's node i. -/
def aN (i : Nat) : ByteArray := (⟨#[97]⟩ : ByteArray) ++ ⟨(Lib.decDigits i).toArray⟩
def el0 : El := ⟨0, ⟨#[]⟩, ⟨#[]⟩, ⟨#[]⟩, ⟨#[]⟩, ⟨#[]⟩, 0, 0⟩
def ladS (x : El) (a b : ByteArray) : El := ⟨x.kind, x.name, a, b, ⟨#[]⟩, ⟨#[]⟩, x.v, 0⟩
def ladE (i : Nat) (s t : El) : List El := [ladS s (aN i) (aN (i + 1)), ladS t (aN (i + 1)) ⟨#[48]⟩]
def ladN (S T : List El) : Nat → List El
  | 0 => []
  | k + 1 => ladN S T k ++ ladE k (S.getD k el0) (T.getD k el0)
theorem ladN_len (S T : List El) (k : Nat) : (ladN S T k).length = 2 * k := by
  induction k with
  | zero => rfl
  | succ k ih => simp only [ladN, List.length_append, ih, ladE, List.length_cons, List.length_nil]; omega

theorem dec_len (i : Nat) (h : i < 100) : (Lib.decDigits i).length ≤ 3 := by
  by_cases h1 : i < 10
  · rw [Lib.decDigits_one h1]; simp
  · rw [Lib.decDigits_two h1 h]; simp
set_option maxRecDepth 100000 in
set_option maxHeartbeats 400000 in
theorem name_any (i : Nat) (hi : i < 100) (w : World) : Calls Tryd.prog 87 #[.int .i64 i] w fun e w' => e = .returned (.string (aN i)) ∧ w' = w := by
  have hl := dec_len i hi
  have hl2 : ¬ 9223372036854775807 < 1 + (Lib.decDigits i).length := by omega
  go_enter Tryd.func87, Tryd.ntmps87
  go_wp2_with (go_at_call 88; (with_reducible refine (Tryd.strconv_Itoa_small i hi _).mono ?_); rintro e w' ⟨rfl, rfl⟩)
  go_ret
  exact ⟨rfl, rfl⟩

/-- The told list lies in the box lb. -/
structure LstAt (w : World) (B lb : Nat) (v : Value) (L : List El) : Prop where
  box : w.heap[lb]? = some (.cells #[v] 25 (0, 0))
  own : w.ownsRow B 30 8 v L.length (cellsL L)
  ne : v.ownBlock ≠ some lb
  ge : B ≤ lb
section
variable {w w' : World} {B lb : Nat} {v : Value} {L : List El}
theorem LstAt.lt (h : LstAt w B lb v L) : lb < w.heap.size := (Array.getElem?_eq_some_iff.1 h.box).1
theorem LstAt.cell (h : LstAt w B lb v L) : w.cell? ⟨lb, 0, none⟩ = some v := by have := h.box; simp [World.cell?, this]
theorem LstAt.frozen (h : LstAt w B lb v L) : w.frozen? ⟨lb, 0, none⟩ = false := by have := h.box; simp [World.frozen?, this]
theorem LstAt.grown (h : LstAt w B lb v L) {row : Option Nat} (hg : w.grownBy w' row) (h1 : some lb ≠ row) (h2 : v.ownBlock = none ∨ v.ownBlock ≠ row) : LstAt w' B lb v L :=
  ⟨by rw [hg.block _ h.lt h1]; exact h.box, h.own.kept hg h2, h.ne, h.ge⟩
theorem LstAt.below (h : LstAt w B lb v L) (hb : Below w.heap.size w w') : LstAt w' B lb v L := h.grown (grown_of_below hb) (by simp) (own_none _)
theorem LstAt.alloc (h : LstAt w B lb v L) (o : Obj) : LstAt (w.alloc o) B lb v L := h.below ((Below.refl _ w).alloc (Nat.le_refl _) o)
theorem LstAt.form (h : LstAt w B lb v L) : ∃ a cap, v = .slice a L.length cap := by
  rcases h.own.2 with ⟨h1, h2⟩ | ⟨g, cap, cur, h1, _⟩
  · exact ⟨none, 0, by rw [h1, h2]⟩
  · exact ⟨_, _, h1⟩
theorem LstAt.app (h : LstAt w B lb v L) {g n c : Nat} (hg : w.grownBy w' v.ownBlock) (hat : v.ownBlock = some g ∨ g = w.heap.size) (e : El) (hown : w'.ownsRow B 30 8 (.slice (some ⟨g, 0, none⟩) (L.length + 1) c) (L.length + 1) (cellsL L ++ elC e)) (hn : n = L.length + 1) :
    w'.cell? ⟨lb, 0, none⟩ = some v ∧ w'.frozen? ⟨lb, 0, none⟩ = false ∧ LstAt (w'.setCell ⟨lb, 0, none⟩ (.slice (some ⟨g, 0, none⟩) n c)) B lb (.slice (some ⟨g, 0, none⟩) n c) (L ++ [e]) := by
  subst hn
  have hb : w'.heap[lb]? = some (.cells #[v] 25 (0, 0)) := by rw [hg.block _ h.lt h.ne.symm]; exact h.box
  have hne : (Value.slice (some ⟨g, 0, none⟩) (L.length + 1) c).ownBlock ≠ some lb := by
    rcases hat with h1 | h1
    · have := h.ne
      rw [h1] at this
      exact this
    · rw [h1]
      intro h2
      injection h2 with h2
      have h3 := h.lt
      simp only at h2
      omega
  exact ⟨by simp [World.cell?, hb], by simp [World.frozen?, hb], one_setCell hb, by rw [List.length_append, cellsL_snoc]; exact ownsRow_setCell_other hown hne _, hne, h.ge⟩
end

def RetPutL (W : World) (B lb : Nat) (L : List El) (E : Ending) (w' : World) : Prop := E = .returned (.tuple #[]) ∧ Below B W w' ∧ ∃ v, LstAt w' B lb v L

set_option maxRecDepth 100000 in
set_option maxHeartbeats 1000000 in
theorem putL_any (x : El) (a b : ByteArray) (B lb : Nat) (v : Value) (L : List El) (w : World) (hB : B ≤ w.heap.size) (h : LstAt w B lb v L) (hl : L.length ≤ 1000) : Calls Tryd.prog 89 #[elV x, .string a, .string b, .pointer (some ⟨lb, 0, none⟩)] w (RetPutL w B lb (L ++ [ladS x a b])) := by
  show Calls Tryd.prog 89 #[.agg #[.int .u8 x.kind, .string x.name, .string x.a, .string x.b, .string x.c, .string x.d, .float .f64 x.v, .int .i64 x.ph], .string a, .string b, .pointer (some ⟨lb, 0, none⟩)] w _
  obtain ⟨iE, hiE, hz0, hz1, hz2⟩ := info_parts info_el
  obtain ⟨ad, cap, rfl⟩ := h.form
  have h1 := h.alloc (.cells #[.int .u8 x.kind, .string x.name, .string x.a, .string x.b, .string x.c, .string x.d, .float .f64 x.v, .int .i64 x.ph] 30)
  have K := h1.alloc (.cells (elC (ladS x a b)).toArray 30)
  have c0 := h1.cell
  have hownS := K.own
  have hnew := cells_new (w.alloc (.cells #[.int .u8 x.kind, .string x.name, .string x.a, .string x.b, .string x.c, .string x.d, .float .f64 x.v, .int .i64 x.ph] 30)) (elC (ladS x a b)) 30
  rw [World.size_alloc] at hnew
  have hb0 : Below B w (w.alloc (.cells #[.int .u8 x.kind, .string x.name, .string x.a, .string x.b, .string x.c, .string x.d, .float .f64 x.v, .int .i64 x.ph] 30)) := (Below.refl _ w).alloc hB _
  have hb1 := hb0.alloc (by simp; omega) (.cells (elC (ladS x a b)).toArray 30)
  go_enter Tryd.func89, Tryd.ntmps89
  go_wp2_with (at_builtin; go_loud (refine wpList_append_lies _ rfl _ _ 25 rfl B 30 iE _ 8 104 Tryd.underlying25 hiE hz0 hz1 hz2 rfl (by decide) (.slice ad L.length cap) L.length (cellsL L) rfl (by exact hownS) ⟨_, 0, none⟩ 1 1 (elC (ladS x a b)) rfl rfl (by exact hnew) (by simp [elC, Value.oneCell']) (by decide) (by unfold maxLen; omega) (by omega) (by simp; omega) _ rfl ?_; intro g2 cap2 w7 hown7 hg7 hat7 hlt7); have KZ := K.app (n := L.length + 1) hg7 hat7 _ hown7 rfl; have z1 := KZ.1; have z2 := KZ.2.1; have K8 := KZ.2.2; have b8 := (hb1.grown hg7 (by simp; omega) (fun k hk => (K.own.lt k hk).1)).setCell (p := ⟨lb, 0, none⟩) h.ge (.slice (some ⟨g2, 0, none⟩) (L.length + 1) cap2); clear KZ hg7 hown7 hat7 hlt7)
  go_end0
  exact ⟨rfl, b8, _, K8⟩

def RetEls (w : World) (L : List El) (E : Ending) (w' : World) : Prop := ∃ v, E = .returned v ∧ w'.ownsRow w.heap.size 30 8 v L.length (cellsL L) ∧ Below w.heap.size w w'
def LadLoop (W : World) (S T : List El) (i : Value) (w : World) : Prop := ∃ (k : Nat) (v : Value), i = .int .i64 k ∧ k ≤ S.length ∧ LstAt w W.heap.size W.heap.size v (ladN S T k) ∧ Below W.heap.size W w

set_option maxRecDepth 100000 in
set_option maxHeartbeats 4000000 in
theorem elements_any (S T : List El) (vs vt : Value) (w : World) (hS : ElsAt w vs S) (hT : ElsAt w vt T) (hlen : T.length = S.length) (hn : S.length ≤ 16) : Calls Tryd.prog 47 #[vs, vt] w (RetEls w (ladN S T S.length)) := by
  obtain ⟨sa, sc, rfl⟩ := hS.form
  obtain ⟨ta, tc, rfl⟩ := hT.form
  rw [hlen] at hT ⊢
  have hl0 : LstAt (w.alloc (.cells #[.slice none 0 0] 25)) w.heap.size w.heap.size (.slice none 0 0) [] := ⟨blk_new _ _, World.ownsRow_nil _ _ _ _, by simp [Value.ownBlock], Nat.le_refl _⟩
  go_enter Tryd.func47, Tryd.ntmps47
  go_wp2
  go_loopw [12] (fun i w' => LadLoop w S T i w') (fun i _ => S.length + 1 - (intOf i).toNat)
  case atStart => exact ⟨0, _, rfl, by omega, hl0, (Below.refl _ w).alloc (Nat.le_refl _) _⟩
  case round =>
    obtain ⟨k, v, rfl, hk, hl, hb⟩ := hrel
    have hz := hb.size
    by_cases hk2 : k < S.length
    · obtain ⟨e, he⟩ : ∃ e, S[k]? = some e := ⟨S[k]'hk2, List.getElem?_eq_getElem hk2⟩
      obtain ⟨f, hf⟩ : ∃ f, T[k]? = some f := ⟨T[k]'(by omega), List.getElem?_eq_getElem (by omega)⟩
      have hgs : S.getD k el0 = e := by rw [List.getD_eq_getElem?_getD, he]; rfl
      have hgt : T.getD k el0 = f := by rw [List.getD_eq_getElem?_getD, hf]; rfl
      have HG := hid (show ladN S T (k + 1) = (ladN S T k ++ [ladS e (aN k) (aN (k + 1))]) ++ [ladS f (aN (k + 1)) ⟨#[48]⟩] by simp only [ladN, hgs, hgt, ladE]; simp)
      clear hgs hgt
      have HN0 := hid fun w => name_any k (by omega) w
      have HN1 := hid (show ∀ w, Calls Tryd.prog 87 #[.int .i64 ((k : Int) + 1)] w (fun e w' => e = .returned (.string (aN (k + 1))) ∧ w' = w) from fun w => name_any (k + 1) (by omega) w)
      have hwr : IntKind.i64.wrap ((k : Int) + 1) = (k : Int) + 1 := IntWalk.i64_in _ (by omega)
      have hll : (ladN S T k).length = 2 * k := ladN_len S T k
      obtain ⟨w2, hw2⟩ : ∃ w2, w2 = World.drew wr := ⟨_, rfl⟩
      have hd2 : Below wr.heap.size wr w2 := by rw [hw2]; exact ⟨rfl, rfl, rfl, Nat.le_refl _, fun _ _ => rfl⟩
      have hb2 : Below w.heap.size w w2 := hb.trans (hd2.mono hz)
      have hl2 := hl.below hd2
      obtain ⟨b, off, rfl, hblt, x0, x1, x2, x3, x4, x5, x6, x7⟩ := (hS.below hb2).at he
      have HP1 := hid (show Calls Tryd.prog 89 #[.agg #[.int .u8 e.kind, .string e.name, .string e.a, .string e.b, .string e.c, .string e.d, .float .f64 e.v, .int .i64 e.ph], .string (aN k), .string (aN (k + 1)), .pointer (some ⟨w.heap.size, 0, none⟩)] w2 (RetPutL w2 w.heap.size w.heap.size (ladN S T k ++ [ladS e (aN k) (aN (k + 1))])) from putL_any e _ _ _ _ _ _ w2 hb2.size hl2 (by omega))
      clear hl hd2
      go_wp2
      (refine wp_region_still_tail 12 (by kernel_rfl) (by kernel_rfl) ?_; simp only [List.take_succ_cons, List.take_zero, List.drop_succ_cons, List.drop_zero]; change wpStill _ _ (World.drew wr) (fun a' => wpList _ _ _ _ a' (World.drew wr)) _ _; rw [← hw2]; clear hw2; (repeat (first | still_step | still_call (HN0.out _) | still_call (HN1.out _))); (try refine wpStill_nil ?_))
      go_wp2_with (go_at_call 89; (with_reducible refine HP1.out.mono ?_); rintro E1 w3 ⟨rfl, hb3, v3, hl3⟩)
      have hb3' := hb2.trans hb3
      obtain ⟨w4, hw4⟩ : ∃ w4, w4 = World.drew w3 := ⟨_, rfl⟩
      have hd4 : Below w3.heap.size w3 w4 := by rw [hw4]; exact ⟨rfl, rfl, rfl, Nat.le_refl _, fun _ _ => rfl⟩
      have hb4 : Below w.heap.size w w4 := hb3'.trans (hd4.mono hb3'.size)
      have hl4 := hl3.below hd4
      clear x0 x1 x2 x3 x4 x5 x6 x7
      obtain ⟨b', off', rfl, hblt', x0, x1, x2, x3, x4, x5, x6, x7⟩ := (hT.below hb4).at hf
      have HP2 := hid (show Calls Tryd.prog 89 #[.agg #[.int .u8 f.kind, .string f.name, .string f.a, .string f.b, .string f.c, .string f.d, .float .f64 f.v, .int .i64 f.ph], .string (aN (k + 1)), .string ⟨#[48]⟩, .pointer (some ⟨w.heap.size, 0, none⟩)] w4 (RetPutL w4 w.heap.size w.heap.size ((ladN S T k ++ [ladS e (aN k) (aN (k + 1))]) ++ [ladS f (aN (k + 1)) ⟨#[48]⟩])) from putL_any f _ _ _ _ _ _ w4 hb4.size hl4 (by simp; omega))
      clear hl3 hd4 hl2 HP1
      go_wp2
      (refine wp_region_still_tail 9 (by kernel_rfl) (by kernel_rfl) ?_; simp only [List.take_succ_cons, List.take_zero, List.drop_succ_cons, List.drop_zero]; change wpStill _ _ (World.drew w3) (fun a' => wpList _ _ _ _ a' (World.drew w3)) _ _; rw [← hw4]; clear hw4; (repeat (first | still_step | still_call (HN0.out _) | still_call (HN1.out _))); (try refine wpStill_nil ?_))
      go_wp2_with (go_at_call 89; (with_reducible refine HP2.out.mono ?_); rintro E1 w5 ⟨rfl, hb5, v5, hl5⟩)
      go_roundw
      case rel => exact ⟨k + 1, v5, by go_num, by omega, by rw [HG.out]; exact hl5, hb4.trans hb5⟩
      case measure => simp [intOf] <;> omega
    · obtain rfl : k = S.length := by omega
      have hc := hl.cell
      go_wp2
      go_ret
      exact ⟨v, rfl, hl.own, hb⟩
end Go.Proofs.YtjpimgdmlieinaaDoor
