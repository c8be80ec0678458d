/- Half power, in the reference: what it gives. Conditions: words have 64 bits; the length as the reach has it. -/
import Derived.Test.YtnedjhoefmmelaaHalf
namespace Go.Proofs.Ytnedjhoefmmelaa
open Go.RowKit

def rHalfA (w : World) (l : List Nat) (i : Value) (wr : World) : Prop := ∃ k : Nat, k ≤ l.length ∧ i = .int .i64 k ∧ ((l.take k).map val).all fin = true ∧ Dr w wr
def rHalfB (w : World) (l : List Nat) (best i : Value) (wr : World) : Prop := ∃ (k r : Nat), k ≤ l.length ∧ i = .int .i64 k ∧ best = .float .f64 r ∧
  val r = halfM ((l.take k).map val) ∧ IsW r ∧ (((l.take k).map val).any fun x => flt x (val 0)) = false ∧ Dr w wr

set_option maxRecDepth 100000 in
set_option maxHeartbeats 4000000 in
theorem rHalf_any (l : List Nat) (v0 : Value) (w : World) (hn : l.length ≤ 140737488355328) (hw : ∀ b ∈ l, IsW b) (hs : Sl w v0 (l.map F)) :
    Calls Try.prog 11 #[v0] w (RetLE w 3 ((halfL (l.map val)).map I) (halfE (l.map val))) := by
  obtain ⟨a, cap, rfl, hra, _, _⟩ := hs
  simp only [List.length_map]
  by_cases hlong : 4096 < l.length
  · rw [show halfE (l.map val) = 3 from by simp [halfE, hlong], show halfL (l.map val) = [] from by simp [halfL, halfE, hlong]]
    go_enter Try.func11, Try.ntmps11
    go_wp2
    go_ret2
    exact RetLE_nil _ _ _ (Below.refl _ _)
  · have HW := hid hw
    clear hw
    obtain ⟨res, hres⟩ : ∃ res, halfL (l.map val) = res := ⟨_, rfl⟩
    obtain ⟨en, hen⟩ : ∃ en, halfE (l.map val) = en := ⟨_, rfl⟩
    rw [hres, hen]
    have Hres := hid hres
    have Hen := hid hen
    clear hres hen
    go_enter Try.func11, Try.ntmps11
    go_wp2
    go_loopw [4] (rHalfA w l) (fun i _ => l.length - (intOf i).toNat)
    case atStart => exact ⟨0, Nat.zero_le _, rfl, rfl, (by first | with_reducible exact Dr.mk _ _ | with_reducible exact Dr.refl _)⟩
    case round =>
      obtain ⟨k, hk, rfl, hfin, hd⟩ := hrel
      have Hd := hid hd
      have Hf := hid hfin
      clear hd hfin
      by_cases hlt : k < l.length
      · obtain ⟨x, hx⟩ : ∃ x, l[k]? = some x := ⟨_, List.getElem?_eq_getElem hlt⟩
        obtain ⟨b, off, rfl, hc⟩ := (Hd.out.row hra).at (k := k) (x := F x) (by simp [hx])
        have hcx := hc k (F x) (by simp [hx])
        have HX := hid hx
        clear hc hra hx
        unfold F at hcx
        cases hf : fin (val x)
        · go_wp2_with (go_at_call 48; refine (FiniteReal_any _ _).mono ?_; rintro e w' ⟨rfl, n, rfl⟩)
          go_ret2
          have hnf : (l.map val).all fin = false := by
            rw [List.all_eq_false]
            exact ⟨val x, List.mem_map.2 ⟨x, List.mem_of_getElem? HX.out, rfl⟩, by simp [hf]⟩
          rw [← Hen.out, ← Hres.out, show halfE (l.map val) = 5 from by simp [halfE, hlong, hnf], show halfL (l.map val) = [] from by simp [halfL, halfE, hlong, hnf]]
          exact RetLE_nil _ _ _ (below_drewN' Hd.out.below _)
        · go_wp2_with (go_at_call 48; refine (FiniteReal_any _ _).mono ?_; rintro e w' ⟨rfl, n, rfl⟩)
          go_roundw
          case rel =>
            refine ⟨k + 1, by omega, by go_num, ?_, (by first | with_reducible exact Hd.out | with_reducible exact Dr.trans Hd.out (Dr.mk _ _))⟩
            rw [take_snoc HX.out, List.map_append, List.all_append, Hf.out]
            simp [hf]
          case measure => simp [intOf]; omega
      · obtain rfl : k = l.length := by omega
        have ht : l.take l.length = l := List.take_length
        go_wp2
        go_loopw [5, 6] (rHalfB w l) (fun _ i _ => l.length - (intOf i).toNat)
        case atStart => exact ⟨0, _, Nat.zero_le _, rfl, rfl, rfl, isW_0, rfl, (by first | with_reducible exact Hd.out | with_reducible exact Dr.trans Hd.out (Dr.mk _ _))⟩
        case round =>
          clear Hd
          obtain ⟨k, r, hk, rfl, rfl, hv, hwr, hneg, hd⟩ := hrel
          have Hd := hid hd
          have Hv := hid hv
          have Hg := hid hneg
          clear hd hv hneg
          by_cases hlt : k < l.length
          · obtain ⟨x, hx⟩ : ∃ x, l[k]? = some x := ⟨_, List.getElem?_eq_getElem hlt⟩
            obtain ⟨b, off, rfl, hc⟩ := (Hd.out.row hra).at (k := k) (x := F x) (by simp [hx])
            have hcx := hc k (F x) (by simp [hx])
            have hwx : IsW x := HW.out x (List.mem_of_getElem? hx)
            have HX := hid hx
            clear hc hra hx
            unfold F at hcx
            cases hf : flt (val x) (val 0)
            · go_wp2_with (first | ((with_reducible refine upon_fadd ?_); intro r n hr hl) | ((with_reducible refine upon_fsub ?_); intro r n hr hl) | ((with_reducible refine upon_fmul ?_); intro r n hr hl) | ((with_reducible refine upon_fdiv ?_); intro r n hr hl) | ((with_reducible refine upon_fmax (by assumption) (by assumption) ?_); intro r n hr hl) | ((with_reducible refine upon_fmin (by assumption) (by assumption) ?_); intro r n hr hl))
              go_roundw
              case rel =>
                have hsn := take_snoc HX.out
                refine ⟨k + 1, _, by omega, by go_num, rfl, ?_, by assumption, ?_, (by first | with_reducible exact Hd.out | with_reducible exact Dr.trans Hd.out (Dr.mk _ _))⟩
                · rw [hsn, List.map_append, halfM, List.foldl_append]
                  have h := Hv.out
                  unfold halfM at h
                  rw [← h]
                  simpa using hr
                · rw [hsn, List.map_append, List.any_append, Hg.out]
                  simp [hf]
              case measure => simp [intOf]; omega
            · go_wp2_with (first | ((with_reducible refine upon_fadd ?_); intro r n hr hl) | ((with_reducible refine upon_fsub ?_); intro r n hr hl) | ((with_reducible refine upon_fmul ?_); intro r n hr hl) | ((with_reducible refine upon_fdiv ?_); intro r n hr hl) | ((with_reducible refine upon_fmax (by assumption) (by assumption) ?_); intro r n hr hl) | ((with_reducible refine upon_fmin (by assumption) (by assumption) ?_); intro r n hr hl))
              go_ret2
              have h2 := Hf.out
              rw [ht] at h2
              have hneg : ((l.map val).any fun x => flt x (val 0)) = true := by
                rw [List.any_eq_true]
                exact ⟨val x, List.mem_map.2 ⟨x, List.mem_of_getElem? HX.out, rfl⟩, hf⟩
              rw [← Hen.out, ← Hres.out, show halfE (l.map val) = 2 from by simp only [halfE, List.length_map, if_neg hlong, h2, if_true, hneg], show halfL (l.map val) = [] from by unfold halfL; rw [if_neg (by simp only [halfE, List.length_map, if_neg hlong, h2, if_true, hneg]; decide)]]
              exact RetLE_nil _ _ _ Hd.out.below
          · obtain rfl : k = l.length := by omega
            go_wp2_with (first | ((with_reducible refine upon_fadd ?_); intro r n hr hl) | ((with_reducible refine upon_fsub ?_); intro r n hr hl) | ((with_reducible refine upon_fmul ?_); intro r n hr hl) | ((with_reducible refine upon_fdiv ?_); intro r n hr hl) | ((with_reducible refine upon_fmax (by assumption) (by assumption) ?_); intro r n hr hl) | ((with_reducible refine upon_fmin (by assumption) (by assumption) ?_); intro r n hr hl))
            go_loopw [8, 9] (HalfLoop2 w l (fdiv (halfM (l.map val)) (val 4611686018427387904))) (fun _ i _ => l.length - (intOf i).toNat)
            case atStart => exact ⟨1, by omega, .inr rfl, rfl, by rw [halfP_one]; exact World.ownsRow_nil _ _ _ _, below_drewN' Hd.out.below _⟩
            case round =>
              have hrh := hr
              rw [Hv.out, ht] at hrh
              have HRH := hid hrh
              clear hrh hr
              obtain ⟨k, hk1, hk2, rfl, hown, hb⟩ := hrel
              obtain ⟨j, rfl⟩ : ∃ j, k = j + 1 := ⟨k - 1, by omega⟩
              have hz := hb.size
              have hpl := halfP_length (l.map val) (fdiv (halfM (l.map val)) (val 4611686018427387904)) (j + 1)
              by_cases hlt : j + 1 < l.length
              · obtain ⟨x, hx⟩ : ∃ x, l[j]? = some x := ⟨_, List.getElem?_eq_getElem (by omega)⟩
                obtain ⟨y, hy⟩ : ∃ y, l[j + 1]? = some y := ⟨_, List.getElem?_eq_getElem hlt⟩
                obtain ⟨b, off, rfl, hc⟩ := (hra.below hb).at (k := j) (x := F x) (by simp [hx])
                have hcx := hc j (F x) (by simp [hx])
                have hcy := hc (j + 1) (F y) (by simp [hy])
                have HX := hid hx
                have HY := hid hy
                clear hc hra hx hy
                unfold F at hcx hcy
                have e1 : IntKind.i64.wrap (j : Int) = (j : Int) := IntWalk.i64_in _ (by omega)
                have e2 : ((j : Int) + 1).toNat = j + 1 := by omega
                have e3 : (0 : Int) ≤ (j : Int) + 1 := by omega
                have e4 : (j : Int) < (l.length : Int) := by omega
                have hat : halfAt (l.map val) (fdiv (halfM (l.map val)) (val 4611686018427387904)) (j + 1) = (flt (val x) (val r) != flt (val y) (val r)) := by
                  simp [halfAt, HX.out, HY.out, HRH.out]
                have HAT := hid hat
                clear hat
                by_cases hsame : flt (val x) (val r) = flt (val y) (val r)
                · have hd : (!(flt (val x) (val r) == flt (val y) (val r))) = false := by simp [hsame]
                  have hat2 : halfAt (l.map val) (fdiv (halfM (l.map val)) (val 4611686018427387904)) (j + 1) = false := by rw [HAT.out, hsame]; simp
                  have HAT2 := hid hat2
                  clear hsame HAT hat2
                  go_wp2
                  go_quiet (fail)
                  go_wp2
                  go_roundw
                  case rel => exact ⟨j + 1 + 1, by omega, .inl (by omega), by go_num, by rw [halfP_succ, HAT2.out]; simpa using owns_drewN hown nq, below_drewN' hb _⟩
                  case measure => simp [intOf]; omega
                · have hd : (!(flt (val x) (val r) == flt (val y) (val r))) = true := by simpa using hsame
                  have hat2 : halfAt (l.map val) (fdiv (halfM (l.map val)) (val 4611686018427387904)) (j + 1) = true := by rw [HAT.out]; simpa using hsame
                  have HAT2 := hid hat2
                  clear hsame HAT hat2
                  go_wp2
                  go_quiet (fail)
                  clear e1 e2 e3 e4
                  go_wp2_with (at_builtin; refine wpList_app1 rfl _ _ 26 rfl w.heap.size 3 _ 8 Try.underlying26 info_int rfl _ _ _ (I ((j : Int) + 1)) rfl rfl rfl (by exact hown) (by first | omega | (simp; omega)) (by first | omega | (simp; omega)) (by first | omega | (simp; omega)) ?_; intro v' w' h1 h2 h3)
                  go_roundw
                  case rel => exact ⟨j + 1 + 1, by omega, .inl (by omega), by go_num, by rw [halfP_succ, HAT2.out]; simpa using h1, hb.trans (below_of_drewN h2)⟩
                  case measure => simp [intOf]; omega
              · go_wp2
                go_ret2
                have hE : halfE (l.map val) = 0 := by
                  have h2 := Hf.out
                  have h := Hg.out
                  rw [ht] at h2 h
                  simp only [halfE, List.length_map, if_neg hlong, h2, if_true, h, Bool.false_eq_true, if_false]
                have hL : halfL (l.map val) = halfP (l.map val) (fdiv (halfM (l.map val)) (val 4611686018427387904)) (j + 1) := by
                  unfold halfL
                  rw [if_pos hE, List.length_map]
                  rcases hk2 with h | h
                  · rw [show l.length = j + 1 from by omega]
                  · obtain rfl : j = 0 := by omega
                    rcases Nat.lt_or_ge 0 l.length with h | h
                    · rw [show l.length = 0 + 1 from by omega]
                    · rw [show l.length = 0 from by omega, halfP_zero, halfP_one]
                rw [← Hen.out, ← Hres.out, hE, hL]
                exact ⟨_, rfl, by rw [List.length_map]; exact hown, hb⟩
end Go.Proofs.Ytnedjhoefmmelaa
