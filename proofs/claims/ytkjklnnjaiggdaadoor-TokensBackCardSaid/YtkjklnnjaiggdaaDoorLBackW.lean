/- TokensBack's walk, of a string as it comes in. Condition: the length; bytealg.MaxLen holds a number. -/
import Derived.Test.YtkjklnnjaiggdaaDoorLBack
namespace Go.Proofs.YtkjklnnjaiggdaaDoor
open Go.RowKit

theorem TokensBack_walk (s : ByteArray) (w : World) (hs : s.size ≤ 140737488351232) (m : Int) (hm : w.cell? ⟨0, 0, none⟩ = some (.int .i64 m)) : Calls Tryd.prog 4 #[.string s] w fun e w' => e = .returned (.bool true) ∧ Below w.heap.size w w' := by
  rw [← mk_of s]
  exact TokensBack_true _ m w (by unfold maxLen; simp; omega) hm
end Go.Proofs.YtkjklnnjaiggdaaDoor
