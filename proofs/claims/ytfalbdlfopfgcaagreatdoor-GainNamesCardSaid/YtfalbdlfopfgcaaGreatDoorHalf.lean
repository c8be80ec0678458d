/- Half power, in the program: what it gives. Conditions: words have 64 bits; the length as the reach has it. -/
import Derived.Test.YtfalbdlfopfgcaaGreatDoorKitB
namespace Go.Proofs.YtfalbdlfopfgcaaGreatDoor
open Go.RowKit

def HalfLoop (w : World) (l : List Nat) (low best i : Value) (wr : World) : Prop := ∃ (k r : Nat), k ≤ l.length ∧ i = .int .i64 k ∧ low = .bool (((l.take k).map val).any fun x => flt x (val 0)) ∧ best = .float .f64 r ∧
  val r = halfM ((l.take k).map val) ∧ IsW r ∧ ((l.take k).map val).all fin = true ∧ Dr w wr
def HalfLoop2 (w : World) (l : List Nat) (h : Option Nat) (v i : Value) (wr : World) : Prop := ∃ k : Nat, 1 ≤ k ∧ (k ≤ l.length ∨ k = 1) ∧ i = .int .i64 k ∧ wr.ownsRow w.heap.size 3 1 v (halfP (l.map val) h k).length ((halfP (l.map val) h k).map I) ∧ Below w.heap.size w wr

theorem Dr.below {w w' : World} (h : Dr w w') : Below w.heap.size w w' := by
  obtain ⟨n, rfl⟩ := h
  exact below_drewN' (Below.refl _ _) n

theorem RetLE_nil (w : World) (e0 : Nat) (n : Int) {w' : World} (h : Below w.heap.size w w') : RetLE w e0 [] n (.returned (.tuple #[.slice none 0 0, .int .i64 n])) w' :=
  ⟨_, rfl, World.ownsRow_nil _ _ _ _, h⟩

set_option maxRecDepth 100000 in
set_option maxHeartbeats 4000000 in
theorem Half_any (l : List Nat) (v0 : Value) (w : World) (hn : l.length ≤ 140737488355328) (hw : ∀ b ∈ l, IsW b) (hs : Sl w v0 (l.map F)) :
    Calls Tryz.prog 25 #[v0] w (RetLE w 3 ((halfL (l.map val)).map I) (halfE (l.map val))) := by
  obtain ⟨a, cap, rfl, hra, _, _⟩ := hs
  simp only [List.length_map]
  by_cases hlong : 4096 < l.length
  · rw [show halfE (l.map val) = 3 from by simp [halfE, hlong], show halfL (l.map val) = [] from by simp [halfL, halfE, hlong]]
    go_enter Tryz.func25, Tryz.ntmps25
    go_wp2
    go_ret2
    exact RetLE_nil _ _ _ (Below.refl _ _)
  · have HW := hid hw
    clear hw
    obtain ⟨res, hres⟩ : ∃ res, halfL (l.map val) = res := ⟨_, rfl⟩
    obtain ⟨en, hen⟩ : ∃ en, halfE (l.map val) = en := ⟨_, rfl⟩
    rw [hres, hen]
    have Hres := hid hres
    have Hen := hid hen
    clear hres hen
    go_enter Tryz.func25, Tryz.ntmps25
    go_wp2
    go_loopw [4, 5, 16] (HalfLoop w l) (fun _ _ i _ => l.length - (intOf i).toNat)
    case atStart => exact ⟨0, _, Nat.zero_le _, rfl, rfl, rfl, rfl, isW_0, rfl, (by first | with_reducible exact Dr.mk _ _ | with_reducible exact Dr.refl _)⟩
    case round =>
      obtain ⟨k, r, hk, rfl, rfl, rfl, hv, hwr, hfin, hd⟩ := hrel
      have Hd := hid hd
      have Hv := hid hv
      have Hf := hid hfin
      clear hd hv hfin
      obtain ⟨low, hlow⟩ : ∃ low, low = ((l.take k).map val).any fun x => flt x (val 0) := ⟨_, rfl⟩
      rw [← hlow]
      have HL := hid hlow
      clear hlow
      by_cases hlt : k < l.length
      · obtain ⟨x, hx⟩ : ∃ x, l[k]? = some x := ⟨_, List.getElem?_eq_getElem hlt⟩
        obtain ⟨b, off, rfl, hc⟩ := (Hd.out.row hra).at (k := k) (x := F x) (by simp [hx])
        have hcx := hc k (F x) (by simp [hx])
        have hwx : IsW x := HW.out x (List.mem_of_getElem? hx)
        have HX := hid hx
        clear hc hra hx
        unfold F at hcx
        by_cases hf : feq (fsub (val x) (val x)) (val 0) = true
        · cases low
          all_goals
            go_wp2_with (first | ((with_reducible refine upon_fadd ?_); intro r n hr hl) | ((with_reducible refine upon_fsub ?_); intro r n hr hl) | ((with_reducible refine upon_fmul ?_); intro r n hr hl) | ((with_reducible refine upon_fdiv ?_); intro r n hr hl) | ((with_reducible refine upon_fmax (by assumption) (by assumption) ?_); intro r n hr hl) | ((with_reducible refine upon_fmin (by assumption) (by assumption) ?_); intro r n hr hl))
            go_roundw
            case rel =>
              have hsn := take_snoc HX.out
              refine ⟨k + 1, _, by omega, by go_num, ?_, rfl, ?_, by assumption, ?_, (by first | with_reducible exact Hd.out | with_reducible exact Dr.trans Hd.out (Dr.mk _ _))⟩
              · have h := HL.out
                rw [hsn, List.map_append, List.any_append, ← h]
                simp
              · rw [hsn, List.map_append, halfM, List.foldl_append]
                have h := Hv.out
                unfold halfM at h
                rw [← h]
                simpa using hr
              · rw [hsn, List.map_append, List.all_append, Hf.out]
                simp [fin, hf]
            case measure => simp [intOf]; omega
        · simp only [Bool.not_eq_true] at hf
          go_wp2_with (first | ((with_reducible refine upon_fadd ?_); intro r n hr hl) | ((with_reducible refine upon_fsub ?_); intro r n hr hl) | ((with_reducible refine upon_fmul ?_); intro r n hr hl) | ((with_reducible refine upon_fdiv ?_); intro r n hr hl) | ((with_reducible refine upon_fmax (by assumption) (by assumption) ?_); intro r n hr hl) | ((with_reducible refine upon_fmin (by assumption) (by assumption) ?_); intro r n hr hl))
          go_ret2
          have hnf : (l.map val).all fin = false := by
            rw [List.all_eq_false]
            exact ⟨val x, List.mem_map.2 ⟨x, List.mem_of_getElem? HX.out, rfl⟩, by simp [fin, hf]⟩
          rw [← Hen.out, ← Hres.out, show halfE (l.map val) = 5 from by simp [halfE, hlong, hnf], show halfL (l.map val) = [] from by simp [halfL, halfE, hlong, hnf]]
          exact RetLE_nil _ _ _ (below_drewN' Hd.out.below _)
      · obtain rfl : k = l.length := by omega
        have ht : l.take l.length = l := List.take_length
        cases low
        · go_wp2_with (first | ((with_reducible refine upon_fadd ?_); intro r n hr hl) | ((with_reducible refine upon_fsub ?_); intro r n hr hl) | ((with_reducible refine upon_fmul ?_); intro r n hr hl) | ((with_reducible refine upon_fdiv ?_); intro r n hr hl) | ((with_reducible refine upon_fmax (by assumption) (by assumption) ?_); intro r n hr hl) | ((with_reducible refine upon_fmin (by assumption) (by assumption) ?_); intro r n hr hl))
          go_loopw [9, 10] (HalfLoop2 w l (fdiv (halfM (l.map val)) (val 4611686018427387904))) (fun _ i _ => l.length - (intOf i).toNat)
          case atStart => exact ⟨1, by omega, .inr rfl, rfl, by rw [halfP_one]; exact World.ownsRow_nil _ _ _ _, below_drewN' Hd.out.below _⟩
          case round =>
            have hrh := hr
            rw [Hv.out, ht] at hrh
            have HRH := hid hrh
            clear hrh hr
            obtain ⟨k, hk1, hk2, rfl, hown, hb⟩ := hrel
            obtain ⟨j, rfl⟩ : ∃ j, k = j + 1 := ⟨k - 1, by omega⟩
            have hz := hb.size
            have hpl := halfP_length (l.map val) (fdiv (halfM (l.map val)) (val 4611686018427387904)) (j + 1)
            by_cases hlt : j + 1 < l.length
            · obtain ⟨x, hx⟩ : ∃ x, l[j]? = some x := ⟨_, List.getElem?_eq_getElem (by omega)⟩
              obtain ⟨y, hy⟩ : ∃ y, l[j + 1]? = some y := ⟨_, List.getElem?_eq_getElem hlt⟩
              obtain ⟨b, off, rfl, hc⟩ := (hra.below hb).at (k := j) (x := F x) (by simp [hx])
              have hcx := hc j (F x) (by simp [hx])
              have hcy := hc (j + 1) (F y) (by simp [hy])
              have HX := hid hx
              have HY := hid hy
              clear hc hra hx hy
              unfold F at hcx hcy
              have e1 : IntKind.i64.wrap (j : Int) = (j : Int) := IntWalk.i64_in _ (by omega)
              have e2 : ((j : Int) + 1).toNat = j + 1 := by omega
              have e3 : (0 : Int) ≤ (j : Int) + 1 := by omega
              have e4 : (j : Int) < (l.length : Int) := by omega
              have hat : halfAt (l.map val) (fdiv (halfM (l.map val)) (val 4611686018427387904)) (j + 1) = (flt (val x) (val r) != flt (val y) (val r)) := by
                simp [halfAt, HX.out, HY.out, HRH.out]
              have HAT := hid hat
              clear hat
              by_cases hsame : flt (val x) (val r) = flt (val y) (val r)
              · have hd : (!(flt (val x) (val r) == flt (val y) (val r))) = false := by simp [hsame]
                have hat2 : halfAt (l.map val) (fdiv (halfM (l.map val)) (val 4611686018427387904)) (j + 1) = false := by rw [HAT.out, hsame]; simp
                have HAT2 := hid hat2
                clear hsame HAT hat2
                go_wp2
                go_quiet (fail)
                go_wp2
                go_roundw
                case rel => exact ⟨j + 1 + 1, by omega, .inl (by omega), by go_num, by rw [halfP_succ, HAT2.out]; simpa using owns_drewN hown nq, below_drewN' hb _⟩
                case measure => simp [intOf]; omega
              · have hd : (!(flt (val x) (val r) == flt (val y) (val r))) = true := by simpa using hsame
                have hat2 : halfAt (l.map val) (fdiv (halfM (l.map val)) (val 4611686018427387904)) (j + 1) = true := by rw [HAT.out]; simpa using hsame
                have HAT2 := hid hat2
                clear hsame HAT hat2
                go_wp2
                go_quiet (fail)
                clear e1 e2 e3 e4
                go_wp2_with (at_builtin; refine wpList_app1 rfl _ _ 49 rfl w.heap.size 3 _ 8 Tryz.underlying49 info_int rfl _ _ _ (I ((j : Int) + 1)) rfl rfl rfl (by exact hown) (by first | omega | (simp; omega)) (by first | omega | (simp; omega)) (by first | omega | (simp; omega)) ?_; intro v' w' h1 h2 h3)
                go_roundw
                case rel => exact ⟨j + 1 + 1, by omega, .inl (by omega), by go_num, by rw [halfP_succ, HAT2.out]; simpa using h1, hb.trans (below_of_drewN h2)⟩
                case measure => simp [intOf]; omega
            · go_wp2
              go_ret2
              have hE : halfE (l.map val) = 0 := by
                have h := HL.out
                rw [ht] at h
                have h2 := Hf.out
                rw [ht] at h2
                simp [halfE, hlong, h2, ← h]
              have hL : halfL (l.map val) = halfP (l.map val) (fdiv (halfM (l.map val)) (val 4611686018427387904)) (j + 1) := by
                unfold halfL
                rw [if_pos hE, List.length_map]
                rcases hk2 with h | h
                · rw [show l.length = j + 1 from by omega]
                · obtain rfl : j = 0 := by omega
                  rcases Nat.lt_or_ge 0 l.length with h | h
                  · rw [show l.length = 0 + 1 from by omega]
                  · rw [show l.length = 0 from by omega, halfP_zero, halfP_one]
              rw [← Hen.out, ← Hres.out, hE, hL]
              exact ⟨_, rfl, by rw [List.length_map]; exact hown, hb⟩
        · go_wp2_with (first | ((with_reducible refine upon_fadd ?_); intro r n hr hl) | ((with_reducible refine upon_fsub ?_); intro r n hr hl) | ((with_reducible refine upon_fmul ?_); intro r n hr hl) | ((with_reducible refine upon_fdiv ?_); intro r n hr hl) | ((with_reducible refine upon_fmax (by assumption) (by assumption) ?_); intro r n hr hl) | ((with_reducible refine upon_fmin (by assumption) (by assumption) ?_); intro r n hr hl))
          go_ret2
          have h := HL.out
          rw [ht] at h
          have h2 := Hf.out
          rw [ht] at h2
          rw [← Hen.out, ← Hres.out, show halfE (l.map val) = 2 from by simp [halfE, hlong, h2, ← h], show halfL (l.map val) = [] from by simp [halfL, halfE, hlong, h2, ← h]]
          exact RetLE_nil _ _ _ Hd.out.below
end Go.Proofs.YtfalbdlfopfgcaaGreatDoor

