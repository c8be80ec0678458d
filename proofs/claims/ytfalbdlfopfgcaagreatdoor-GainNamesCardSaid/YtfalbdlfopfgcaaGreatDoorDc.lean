/- sync.Once of one goroutine: doSlow and Do, the function called by its contract (turned from the kit's worked proof Lazy). Condition: not done, the lock free. -/
import Derived.Test.YtfalbdlfopfgcaaGreatDoorDb
namespace Go.Proofs.YtfalbdlfopfgcaaGreatDoor
open Go.RowKit

set_option maxRecDepth 100000 in
theorem load_bool (a : Addr) (d : Int) (t : Bool) (ht : (d != 0) = t) (w : World) (hc : w.cell? a = some (.int .u32 d)) : Calls Tryz.prog 96 #[.pointer (some a)] w fun e w' => e = .returned (.bool t) ∧ w' = w := by
  have hl := run_call_load (P := Tryz.prog) Tryz.func119 (by kernel_rfl) (by kernel_rfl) (by kernel_rfl) .u32 (by kernel_rfl) hc
  go_enter Tryz.func96, Tryz.ntmps96
  go_wp2
  go_ret
  exact ⟨rfl, rfl⟩
set_option maxRecDepth 100000 in
set_option maxHeartbeats 4000000 in
theorem slow_any (b : Nat) (pl : Addr) (Q : World → Prop) (hQ : ∀ w2, Q w2 → w2.cell? ⟨b, 0, none⟩ = some (.int .u32 0) ∧ w2.cell? ⟨b, 1, none⟩ = some (.int .i32 1) ∧ w2.frozen? ⟨b, 0, none⟩ = false ∧ w2.frozen? ⟨b, 1, none⟩ = false) (w : World)
    (h0 : w.cell? ⟨b, 0, none⟩ = some (.int .u32 0)) (h1 : w.cell? ⟨b, 1, none⟩ = some (.int .i32 0)) (f1 : w.frozen? ⟨b, 1, none⟩ = false)
    (HC : Calls Tryz.prog 74 #[.pointer (some pl)] (w.setCell ⟨b, 1, none⟩ (.int .i32 1)) fun e w2 => e = .returned (.tuple #[]) ∧ Q w2) :
    Calls Tryz.prog 97 #[.pointer (some ⟨b, 0, none⟩), .func (.func 74) #[] #[.pointer (some pl)]] w fun e w' => e = .returned (.tuple #[]) ∧ ∃ w2, Q w2 ∧ w' = (w2.drew.setCell ⟨b, 0, none⟩ (.int .u32 1)).setCell ⟨b, 1, none⟩ (.int .i32 0) := by
  have hL := hid (load_bool ⟨b, 0, none⟩ 0 false rfl (w.setCell ⟨b, 1, none⟩ (.int .i32 1)) ((World.cell?_setCell_other _ ⟨b, 1, none⟩ ⟨b, 0, none⟩ _ (by simp)).trans h0))
  have hnot : ∀ (x : Bool) (w : World), (Op.unary .not (.bool x)).run Tryz.prog w = .ok (.bool (!x)) w := fun _ _ => rfl
  have HC' := hid HC
  clear HC
  go_enter_defers Tryz.func97, Tryz.ntmps97
  go_wp2_with (first
    | (go_at_call 120; refine (lock_free ⟨b, 1, none⟩ _ (by go_simp) (by go_simp)).mono ?_; rintro e w' ⟨rfl, rfl⟩)
    | (go_at_call 96; (with_reducible refine hL.out.mono ?_); rintro e w' ⟨rfl, rfl⟩)
    | (go_at_call 74; refine HC'.out.mono ?_; rintro e w2 ⟨rfl, hq⟩))
  obtain ⟨q0, q1, z0, z1⟩ := hQ w2 hq
  refine leaves_cons (f := 122) (args := #[.pointer (some ⟨b, 0, none⟩), .bool true]) (by simp) (by simp [go_sem]) ?_
  refine (store_deferred ⟨b, 0, none⟩ (.int .u32 0) .returning _ q0 z0).mono ?_
  rintro e u' w'' ⟨rfl, rfl, rfl⟩
  refine leaves_cons (f := 121) (args := #[.pointer (some ⟨b, 1, none⟩)]) (by simp [settle]) (by simp [go_sem]) ?_
  refine (unlock_deferred ⟨b, 1, none⟩ _ _ ?_ (by simp [z1])).mono ?_
  · refine (World.cell?_setCell_other _ ⟨b, 0, none⟩ ⟨b, 1, none⟩ _ (by simp)).trans ?_
    rw [World.cell?_drew]
    exact q1
  rintro e u' w'' ⟨rfl, rfl, rfl⟩
  simp [Leaves, settle, results, Tryz.results97]
  exact ⟨w2, hq, rfl⟩
set_option maxRecDepth 100000 in
set_option maxHeartbeats 1600000 in
/-- '(*sync.Once).Do', not yet done, the lock free. -/
theorem do_first (b : Nat) (pl : Addr) (Q : World → Prop) (hQ : ∀ w2, Q w2 → w2.cell? ⟨b, 0, none⟩ = some (.int .u32 0) ∧ w2.cell? ⟨b, 1, none⟩ = some (.int .i32 1) ∧ w2.frozen? ⟨b, 0, none⟩ = false ∧ w2.frozen? ⟨b, 1, none⟩ = false) (w : World)
    (h0 : w.cell? ⟨b, 0, none⟩ = some (.int .u32 0)) (h1 : w.cell? ⟨b, 1, none⟩ = some (.int .i32 0)) (f1 : w.frozen? ⟨b, 1, none⟩ = false)
    (HC : Calls Tryz.prog 74 #[.pointer (some pl)] (w.setCell ⟨b, 1, none⟩ (.int .i32 1)) fun e w2 => e = .returned (.tuple #[]) ∧ Q w2) :
    Calls Tryz.prog 73 #[.pointer (some ⟨b, 0, none⟩), .func (.func 74) #[] #[.pointer (some pl)]] w fun e w' => e = .returned (.tuple #[]) ∧ ∃ w2, Q w2 ∧ w' = (w2.drew.setCell ⟨b, 0, none⟩ (.int .u32 1)).setCell ⟨b, 1, none⟩ (.int .i32 0) := by
  have hL := hid (load_bool ⟨b, 0, none⟩ 0 false rfl w h0)
  have hnot : ∀ (x : Bool) (w : World), (Op.unary .not (.bool x)).run Tryz.prog w = .ok (.bool (!x)) w := fun _ _ => rfl
  have HS := hid (slow_any b pl Q hQ w h0 h1 f1 HC)
  clear HC hQ
  go_enter Tryz.func73, Tryz.ntmps73
  go_wp2_with (first
    | (go_at_call 96; (with_reducible refine hL.out.mono ?_); rintro e w' ⟨rfl, rfl⟩)
    | (go_at_call 97; (with_reducible refine HS.out.mono ?_); rintro e w' ⟨rfl, w2, hq, rfl⟩))
  go_end0
  exact ⟨rfl, w2, hq, rfl⟩
set_option maxRecDepth 100000 in
/-- '(*sync.Once).Do', done already. -/
theorem do_done (b : Nat) (fv : Value) (w : World) (h0 : w.cell? ⟨b, 0, none⟩ = some (.int .u32 1)) : Calls Tryz.prog 73 #[.pointer (some ⟨b, 0, none⟩), fv] w fun e w' => e = .returned (.tuple #[]) ∧ w' = w := by
  have hL := hid (load_bool ⟨b, 0, none⟩ 1 true rfl w h0)
  have hnot : ∀ (x : Bool) (w : World), (Op.unary .not (.bool x)).run Tryz.prog w = .ok (.bool (!x)) w := fun _ _ => rfl
  go_enter Tryz.func73, Tryz.ntmps73
  go_wp2_with (go_at_call 96; (with_reducible refine hL.out.mono ?_); rintro e w' ⟨rfl, rfl⟩)
  go_end0
  exact ⟨rfl, rfl⟩
end Go.Proofs.YtfalbdlfopfgcaaGreatDoor

