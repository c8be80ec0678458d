/- GainOnes: for every input the function returns true, and its arguments read afterwards as before. No condition. -/
import Derived.Test.YtnedjhoefmmelaaLOnes
import Derived.Test.YtnedjhoefmmelaaFrame
import Derived.Lib.SmallJoins
namespace Go.Proofs.Ytnedjhoefmmelaa.gainOnes
open Go.ChangeShapes Go.WideShapes Go.ChangeAt Go.RowKit Go.Joins
open Go.ChangeMaps (open_string shut_string)
set_option linter.unusedVariables false

theorem own : ownKnob Try.prog.godebug = none := by kernel_rfl
theorem laidOut : laidOutB Try.prog = true := by kernel_rfl
theorem cellsZ : Try.prog.cellsOf 38 = 2 := by kernel_rfl

set_option maxRecDepth 100000 in
theorem lifted (os : Os) (started : os.Started) (H : Type) (enc : TypeId × Value → H) :
    ReturnsInHanded {} Try.checked os 6 .any (Rows.gainOnesSpec.pre6 enc Try.prog Try.f6 Rows.gainOnesRow.domain false) (Rows.gainOnesSpec.post enc Try.prog Try.f6 false true false false) := by
  refine returnsInHanded_of_change_sized (C := Try.checked) own started (by kernel_rfl) Try.func6
    (ChangeSpec.witness6 (enc := enc) (C := Try.checked) false ⟨#[], #[.agg #[.int .u64 0, .int .u64 0], .int .u64 0], []⟩ 8 (by kernel_rfl) (by kernel_rfl) (by kernel_rfl) (by kernel_rfl)) ?_
  intro W base args ds gs before hval0 hW _ hsz0 _
  have hval : ∀ (j : Nat) t v, Try.f6.params[j]? = some t → args[j]? = some v → Value.okWide Try.prog W .any base t v := hval0
  have hsz : (DataW.weightsEach Try.prog (Try.f6.params.toList ++ Rows.gainOnesSpec.plain.varTypes Try.prog) (ds ++ gs)).all (· ≤ reachBytes) = true := hsz0
  have hW' := hW
  obtain ⟨p, q, hA0, hV, rfl, _, _⟩ := hW
  have hA : DataW.TrodAll enc Try.prog W 0 (fun _ => true) true Try.f6.params.toList args.toList ds p := hA0
  rw [Try.params6] at hA hval hsz
  obtain ⟨v0, vs0, d0, ds0, p0, q0, hargs, rfl, rfl, h0, r0⟩ := trodAll_cons hA
  obtain ⟨v1, vs1, d1, ds1, p1, q1, rfl, rfl, rfl, h1, r1⟩ := trodAll_cons r0
  obtain ⟨rfl, rfl, rfl⟩ := trodAll_nil r1
  obtain rfl : args = #[v0, v1] := by cases args; simp_all
  obtain ⟨rfl, rfl⟩ := trodVars_none hV
  have k0 := h0
  have lt0 : ∀ x ∈ p0, x.block < W.heap.size := by obtain ⟨m, hm⟩ := k0; exact DataW.trod_lt m _ _ _ hm
  obtain ⟨c0, e0, y0, z0, m0, rfl, rfl, _, hy0, hz0⟩ := open_agg2 Try.underlying38 (by kernel_rfl) cellsZ (hval 0 38 v0 rfl rfl) h0
  obtain ⟨ai, hae, _, ai_wf⟩ := DataW.trod_int Try.underlying36 hy0
  simp at hae
  subst hae
  obtain ⟨a, rfl, aw⟩ : ∃ n : Nat, ai = (n : Int) ∧ IsW n := ⟨ai.toNat, by have := wf_u64 ai_wf; omega, by have := wf_u64 ai_wf; unfold IsW; omega⟩
  obtain ⟨bi, hbe, _, bi_wf⟩ := DataW.trod_int Try.underlying36 hz0
  simp at hbe
  subst hbe
  obtain ⟨b, rfl, bw⟩ : ∃ n : Nat, bi = (n : Int) ∧ IsW n := ⟨bi.toNat, by have := wf_u64 bi_wf; omega, by have := wf_u64 bi_wf; unfold IsW; omega⟩
  have k1 := h1
  have lt1 : ∀ x ∈ p1, x.block < W.heap.size := by obtain ⟨m, hm⟩ := k1; exact DataW.trod_lt m _ _ _ hm
  obtain ⟨xi, rfl, rfl, _, xi_wf⟩ := open_int Try.underlying36 (hval 1 36 v1 rfl rfl) h1
  obtain ⟨x, rfl, xw⟩ : ∃ n : Nat, xi = (n : Int) ∧ IsW n := ⟨xi.toNat, by have := wf_u64 xi_wf; omega, by have := wf_u64 xi_wf; unfold IsW; omega⟩
  clear hA0 hval0 hsz0
  refine (ones_walk a b x W aw bw xw).mono fun e W' ⟨he, bel⟩ => ?_
  subst he
  exact ⟨_, rfl, _, _, _, [], _, [], hW', trodAll_mk1 (shut_bool Try.underlying4 _), (trodAll_cons_mk (Below.trod laidOut (by kernel_rfl) (of_decide_eq_true (by kernel_rfl)) k0 bel lt0) (trodAll_cons_mk (Below.trod laidOut (by kernel_rfl) (of_decide_eq_true (by kernel_rfl)) k1 bel lt1) trodAll_mk0)), rfl, bel.frame _, fun h => by cases h⟩

theorem over : Rows.gainOnesRow.holds Try.pinned (OpenSpec.ofChange Rows.gainOnesSpec) :=
  OpenClaim.holds_of_wide 6 Try.f6 rfl rfl rfl rfl rfl rfl rfl ⟨rfl, rfl, rfl, rfl, rfl⟩ rfl rfl rfl rfl rfl (by kernel_rfl) Try.func6 (by kernel_rfl)
    (of_decide_eq_true (by kernel_rfl)) (by unfold Func.isWrapper; rw [if_neg (of_decide_eq_false (by kernel_rfl))]; exact ⟨rfl, rfl⟩)
    (fun os started H enc _ => lifted os started H enc)

/-- THE STATEMENT. -/
theorem proved : Rows.GainOnesSaid := over
end Go.Proofs.Ytnedjhoefmmelaa.gainOnes
