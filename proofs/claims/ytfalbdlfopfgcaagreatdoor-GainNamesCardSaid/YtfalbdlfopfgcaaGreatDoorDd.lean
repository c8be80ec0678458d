/- An append of a real at a step of a region that draws its order; the row of the powers of ten. No condition. -/
import Derived.Test.YtfalbdlfopfgcaaGreatDoorDa
import Derived.Test.YtfalbdlfopfgcaaGreatDoorDc
import Derived.Test.YtfalbdlfopfgcaaGreatDoorSl
import Derived.Test.YtfalbdlfopfgcaaGreatDoorBase
import Derived.Deep.RegionHeld3
import Derived.Deep.AppendLies
namespace Go.Proofs.YtfalbdlfopfgcaaGreatDoor
open Go.RowKit

theorem step_app_fl {ops : Array Oper} {o : Oper} {a : Act} {K : Act → World → Prop} {Q : Exit → Act → World → Prop} {E : Prop} {w : World} (hgd : o.guard = none) (s x : Operand)
    (ho : o.op = .call { callee := .builtin .append, args := #[s, x], argTypes := #[52, 52] }) (base : Nat) (uv : Value) (n : Nat) (xs : List Value) (b : Nat) (u : Nat) (h63 : n ≤ 100000) (hs : a.eval s = uv) (hx : a.eval x = .slice (some ⟨b, 0, none⟩) 1 1)
    (hown : w.ownsRow base 29 1 uv n xs) (hnew : w.cell? ⟨b, 0, none⟩ = some (.float .f64 u)) (hbase : base ≤ w.heap.size)
    (h : ∀ g cap w', w'.ownsRow base 29 1 (.slice (some ⟨g, 0, none⟩) (n + 1) cap) (n + 1) (xs ++ [.float .f64 u]) → w.grownBy w' uv.ownBlock → (uv.ownBlock = some g ∨ g = w.heap.size) → K (a.put o.dst (.slice (some ⟨g, 0, none⟩) (n + 1) cap)) w') :
    if Region.wanted o (yielded ops a.tmps) = true then Oper.wp Tryz.prog o a w K Q else E := by
  obtain ⟨iC, hi1, hz0, hz1, hz2⟩ := info_parts info_f64
  refine step_append_lies w hgd s x _ ho base 29 iC _ 1 8 Tryz.underlying52 hi1 hz0 hz1 hz2 rfl (by decide) uv n xs hs hown ⟨b, 0, none⟩ 1 1 [.float .f64 u] hx rfl (fun j u' hu => ?_) (by simp [Value.oneCell']) (by decide) (by simp only [maxLen]; omega) (by omega) hbase _ rfl ?_
  · rw [Go.WideShapes.add_plain]
    match j, hu with
    | 0, hu =>
      simp at hu
      subst hu
      exact hnew
    | j + 1, hu => simp at hu
  · intro g cap w' k1 k2 k3 k4
    exact h g cap w' k1 k2 k3
theorem cell_bl {w w' : World} {a : Addr} {v : Value} (h : w.cell? a = some v) (hb : Below w.heap.size w w') : w'.cell? a = some v := (hb.cell (World.block_lt_of_cell? _ _ h)).trans h
theorem itoa_len {i : Int} (h1 : -323 ≤ i) (h2 : i ≤ 308) : (Lib.itoa i).length ≤ 4 := by
  obtain ⟨_, _, h, _⟩ := dgs_ok ⟨i.natAbs, by omega⟩
  unfold dgs at h
  rw [List.length_map] at h
  unfold Lib.itoa
  split
  · rw [List.length_cons]
    dsimp only at h
    omega
  · rw [show i.toNat = i.natAbs by omega]
    dsimp only at h
    omega
def teL (k : Nat) : List Value := (List.range k).map fun j => .float .f64 (teN j)
theorem teL_snoc (k : Nat) : teL (k + 1) = teL k ++ [.float .f64 (teN k)] := by unfold teL; rw [List.range_succ, List.map_append]; rfl
/-- The state of the struct 'powers' while its list is made: the base world, the row's base, the place, the variable that the closure captured. -/
structure PwS (w0 : World) (N b : Nat) (pl : Addr) (k : Nat) (w : World) : Prop where
  p : w.cell? pl = some (.pointer (some ⟨b, 0, none⟩))
  o0 : w.cell? ⟨b, 0, none⟩ = some (.int .u32 0)
  o1 : w.cell? ⟨b, 1, none⟩ = some (.int .i32 1)
  l : ∃ v, w.cell? ⟨b, 3, none⟩ = some v ∧ w.ownsRow N 29 1 v k (teL k)
  z0 : w.frozen? ⟨b, 0, none⟩ = false
  z1 : w.frozen? ⟨b, 1, none⟩ = false
  z3 : w.frozen? ⟨b, 3, none⟩ = false
  bl : Below w0.heap.size w0 w
  n : N ≤ w.heap.size
theorem PwS.below {w0 w w' : World} {N b k : Nat} {pl : Addr} (h : PwS w0 N b pl k w) (hb : Below w.heap.size w w') : PwS w0 N b pl k w' := by
  obtain ⟨v, hl, ho⟩ := h.l
  have hbb := World.block_lt_of_cell? _ _ h.o0
  have hf : ∀ o, w'.frozen? ⟨b, o, none⟩ = w.frozen? ⟨b, o, none⟩ := fun o => by
    unfold World.frozen?
    rw [hb.block b hbb]
  exact ⟨cell_bl h.p hb, cell_bl h.o0 hb, cell_bl h.o1 hb, ⟨v, cell_bl hl hb, owns_below ho hb⟩, (hf 0).trans h.z0, (hf 1).trans h.z1, (hf 3).trans h.z3, h.bl.trans (hb.mono h.bl.size), Nat.le_trans h.n hb.size⟩
theorem tabIs_below {P : Program} {n : String} {k : IntKind} {zs : List Int} {w0 w : World} (h : Lib.TabIs P w0 n k zs) (hb : Below w0.heap.size w0 w) : Lib.TabIs P w n k zs := by
  unfold Lib.TabIs World.var? at *
  cases hg : P.globalNamed n with
  | none => simp [hg] at h
  | some g =>
    simp only [hg, Option.bind_some] at h ⊢
    by_cases hl : g < w0.heap.size
    · rw [hb.block g hl]
      exact h
    · rw [Array.getElem?_eq_none (by omega)] at h
      simp at h
theorem cell_app {X w6 : World} {g : Option Nat} {a : Addr} {x : Value} (h : X.cell? a = some x) (hg : X.grownBy w6 g) (hne : g ≠ some a.block) : w6.cell? a = some x := by
  unfold World.cell? at h ⊢
  rw [hg.block a.block (World.block_lt_of_cell? _ _ (by unfold World.cell?; exact h)) (fun e => hne e.symm)]
  exact h
/-- One power more. -/
theorem PwS.app {w0 w X w6 : World} {N b k g cap : Nat} {pl : Addr} {v : Value} (h : PwS w0 N b pl k w) (hX : Below w.heap.size w X) (hl : w.cell? ⟨b, 3, none⟩ = some v) (ho : w.ownsRow N 29 1 v k (teL k)) (hb : w0.heap.size ≤ b) (hbN : b < N) (hpN : pl.block < N) (hne : b ≠ pl.block)
    (hown : w6.ownsRow N 29 1 (.slice (some ⟨g, 0, none⟩) (k + 1) cap) (k + 1) (teL k ++ [.float .f64 (teN k)])) (hg : X.grownBy w6 v.ownBlock) :
    w6.cell? ⟨b, 3, none⟩ = some v ∧ w6.frozen? ⟨b, 3, none⟩ = false ∧ w6.cell? pl = some (.pointer (some ⟨b, 0, none⟩)) ∧ PwS w0 N b pl (k + 1) (w6.setCell ⟨b, 3, none⟩ (.slice (some ⟨g, 0, none⟩) (k + 1) cap)) := by
  have SX := h.below hX
  have oX := owns_below ho hX
  have e1 : v.ownBlock ≠ some b := fun e => by have := (ho.lt b e).1; omega
  have e2 : v.ownBlock ≠ some pl.block := fun e => by have := (ho.lt _ e).1; omega
  have c3 := cell_app (cell_bl hl hX) hg e1
  have cp := cell_app SX.p hg e2
  have c0 := cell_app SX.o0 hg e1
  have c1 := cell_app SX.o1 hg e1
  have hblk : w6.heap[b]? = X.heap[b]? := hg.block b (World.block_lt_of_cell? _ _ SX.o0) (fun e => e1 e.symm)
  have hf : ∀ o, w6.frozen? ⟨b, o, none⟩ = X.frozen? ⟨b, o, none⟩ := fun o => by
    unfold World.frozen?
    rw [hblk]
  have hfs : ∀ o u, (w6.setCell ⟨b, 3, none⟩ u).frozen? ⟨b, o, none⟩ = w6.frozen? ⟨b, o, none⟩ := fun o u => by simp
  have h2 : Below w0.heap.size X w6 := ⟨hg.os, hg.tape, hg.output, hg.size, fun j hj => hg.block j (Nat.lt_of_lt_of_le hj SX.bl.size) (fun e => by have := (ho.lt j e.symm).1; omega)⟩
  refine ⟨c3, (hf 3).trans SX.z3, cp, ?_, ?_, ?_, ⟨_, World.cell?_setCell_same _ _ _ c3, ?_⟩, (hfs 0 _).trans ((hf 0).trans SX.z0), (hfs 1 _).trans ((hf 1).trans SX.z1), (hfs 3 _).trans ((hf 3).trans SX.z3), (SX.bl.trans h2).setCell hb _, ?_⟩
  · exact (World.cell?_setCell_other _ ⟨b, 3, none⟩ pl _ (fun e => hne (by rw [← e]))).trans cp
  · exact (World.cell?_setCell_other _ ⟨b, 3, none⟩ ⟨b, 0, none⟩ _ (by simp)).trans c0
  · exact (World.cell?_setCell_other _ ⟨b, 3, none⟩ ⟨b, 1, none⟩ _ (by simp)).trans c1
  · rw [teL_snoc]
    have hgk : w6.grownBy (w6.setCell ⟨b, 3, none⟩ (.slice (some ⟨g, 0, none⟩) (k + 1) cap)) (some b) := ⟨rfl, rfl, rfl, by simp [World.setCell], fun j _ hi => Below.heap_setCell _ _ _ _ (fun e => hi (by rw [e]))⟩
    refine hown.kept hgk (.inr fun e => ?_)
    have := (hown.lt _ e).1
    omega
  · have := SX.n
    have := hg.size
    simp [World.setCell]
    omega
def PwLoop (w0 : World) (N b : Nat) (pl : Addr) (i : Value) (w : World) : Prop := ∃ k : Nat, k ≤ 632 ∧ i = .int .i64 ((k : Int) - 323) ∧ PwS w0 N b pl k w
set_option maxRecDepth 100000 in
set_option maxHeartbeats 4000000 in
theorem pows_any (w0 : World) (hT : Tabs w0) (hI : Lib.TabIs Tryz.prog w0 "internal/strconv.uint64pow10" .u64 Lib.pow10Tab) (N b : Nat) (pl : Addr) (hb : w0.heap.size ≤ b) (_hpl : w0.heap.size ≤ pl.block) (hbN : b < N) (hpN : pl.block < N) (hne : b ≠ pl.block) (w : World) (hS : PwS w0 N b pl 0 w) :
    Calls Tryz.prog 74 #[.pointer (some pl)] w fun e w' => e = .returned (.tuple #[]) ∧ PwS w0 N b pl 632 w' := by
  have hs := hid hS
  have HT := hid hT
  have HI := hid hI
  clear hS hT hI
  go_enter Tryz.func74, Tryz.ntmps74
  go_wp2
  go_loopw [1] (fun i w' => PwLoop w0 N b pl i w') (fun i _ => (400 - intOf i).toNat)
  case atStart => exact ⟨0, Nat.zero_le _, rfl, hs.out⟩
  case round =>
    obtain ⟨k, hk, rfl, hS⟩ := hrel
    by_cases hkl : k < 632
    · have g1 : (k : Int) - 323 ≤ 308 := by omega
      have HIt : Hid (Calls Tryz.prog 69 #[.int .i64 ((k : Int) - 323)] wr fun e w' => e = .returned (.string ⟨(Lib.itoa ((k : Int) - 323)).toArray⟩) ∧ Below wr.heap.size wr w') := hid ((Tryz.strconv_Itoa ((k : Int) - 323) (by omega) (by omega) wr (tabIs_below HI.out hS.bl)).mono (by
        rintro e w1 ⟨rfl, kk, os, rfl⟩
        exact ⟨rfl, rfl, rfl, rfl, by simp [Sort.grow, World.drewN], fun j hj => by simp [Sort.grow, World.drewN, Array.getElem?_append, hj]⟩))
      have HPf := hid fun w1 (hb1 : Below wr.heap.size wr w1) => pf_e ((k : Int) - 323) (by omega) (by omega) w1 (HT.out.below (hS.bl.trans (hb1.mono hS.bl.size)))
      rw [show ((k : Int) - 323 + 323).toNat = k by omega] at HPf
      unfold pwT at HPf
      have hil : ¬ 9223372036854775807 < 2 + (Lib.itoa ((k : Int) - 323)).length := by
        have := itoa_len (i := (k : Int) - 323) (by omega) (by omega)
        omega
      go_upto_region 4 with (first
        | (go_at_call 69; (with_reducible refine HIt.out.mono ?_); rintro e w1 ⟨rfl, hb1⟩)
        | (go_at_call 68; (with_reducible refine (HPf.out _ hb1).mono ?_); rintro e w2 ⟨r, rfl, hr, hb2⟩))
      obtain rfl := val_inj hr
      have S2 := hS.below (hb1.trans (hb2.mono hb1.size))
      clear hS hr hb1 hb2 HIt HPf
      obtain ⟨v, hl, ho⟩ := S2.l
      have hp := S2.p
      have hX : Below w2.heap.size w2 (w2.alloc (.cells #[.float .f64 (teN k)] 29)).drew := ((Below.refl _ w2).alloc (Nat.le_refl _) _).trans ⟨rfl, rfl, rfl, Nat.le_refl _, fun _ _ => rfl⟩
      have hp4 : (w2.alloc (.cells #[.float .f64 (teN k)] 29)).cell? pl = some (.pointer (some ⟨b, 0, none⟩)) := cell_bl hp ((Below.refl _ w2).alloc (Nat.le_refl _) _)
      have hl4 : (w2.alloc (.cells #[.float .f64 (teN k)] 29)).cell? ⟨b, 3, none⟩ = some v := cell_bl hl ((Below.refl _ w2).alloc (Nat.le_refl _) _)
      go_region_law (first
        | (apply step_app_fl rfl _ _ rfl N v k (teL k) w2.heap.size (teN k) (by omega); (· rfl); (· rfl); (· exact owns_below ho hX); (· simp); (· exact Nat.le_trans S2.n hX.size); intro g6 cap6 w6 hown6 hg6 hat6; have Q6 := S2.app hX hl ho hb hbN hpN hne hown6 hg6; have d2 := Q6.1; have d3 := Q6.2.1; have d4 := Q6.2.2.1))
      all_goals
        obtain ⟨-, -, -, Q7⟩ := Q6
        clear d2 d3 d4 hown6 hg6 hat6 hX hp4 hl4 hp hl ho S2
        go_wp2
        go_roundw
        case rel => exact ⟨k + 1, hkl, by go_num, Q7⟩
        case measure => simp [intOf] <;> omega
    · obtain rfl : k = 632 := by omega
      go_wp2
      go_end0
      exact ⟨rfl, hS⟩
end Go.Proofs.YtfalbdlfopfgcaaGreatDoor

