/-
  No cell of these rows narrows 'for every input' (looked for: loops, veiled, ifaces, maps, wideKeys, modest, calm, conditions, laid).
  DERIVED. THE GIVEN ROWS OF THIS SEAT. 5 by the template 'for every input the law returns true; each argument reads behind the call as it read before'; 0 by the template 'total and deterministic' (their statements: YtnedjhoefmmelaaTotals.lean).
  GIVEN WITH THE SEED: the statements are not yours to turn. If you find one false, say at which input.
  Laid BY PROGRAM, IN A SANDBOX (cutbox-rows.mjs): the forced cells as the released guide's own fill.sh prints them over the translation 9183c90ad2c415e2… (all of the seat's roots in one cut). By AI agents, Wed Nov 11 2026. No macro, syntax, notation, axiom, sorry.
-/
import Derived.Test.YtnedjhoefmmelaaChecked
import GoSem.Claim
import GoSem.ClaimJoined
import GoSem.ClaimMapViews
import Derived.JoinedTies
import Derived.KernelRfl
namespace Go.Proofs.Ytnedjhoefmmelaa
/- THE CELL 'sum', in the pinned program and in every row, IS THE sha256 OF THE DUMP (.gsa) THAT YtnedjhoefmmelaaProg.lean LOADS. Nothing in Lean hashes anything: it is a label: what it is worth is what the hold of that sum in a sandbox is worth. -/
noncomputable def Try.pinned : Pinned := { name := "ytnedjhoefmmelaa", sum := "9183c90ad2c415e277e6d3b32c2ce869edca1dcbeb780f160830c2802a43c7e6", checked := Try.checked }
namespace Rows
def none {H : Type} : Left H := { results := [], args := [] }

/-- 'gridworklaw26.GainHalves': WHATEVER THE INPUT: true; the input reads as it did. -/
def gainHalvesSpec : ChangeSpec := { name := "gainHalves", fn := fun _ => fun
  | [d] => { results := [.lit (.bool true)], args := [d] }
  | _ => none }
def gainHalvesRow : OpenClaim := { program := "ytnedjhoefmmelaa", sum := "9183c90ad2c415e277e6d3b32c2ce869edca1dcbeb780f160830c2802a43c7e6", func := "gridwork/gridworklaw26.GainHalves", spec := "gainHalves", inPlace := ["math.Float64frombits", "math.Float64bits"], apart := false }
def GainHalvesSaid : Prop := gainHalvesRow.holds Try.pinned (OpenSpec.ofChange gainHalvesSpec)

/-- ITS FALSE NEIGHBOUR: 'it returns false'. Refute it at one input. -/
def gainHalvesWrong : ChangeSpec := { name := "gainHalves", fn := fun _ => fun
  | [d] => { results := [.lit (.bool false)], args := [d] }
  | _ => none }
def GainHalvesWrongFalsely : Prop := gainHalvesRow.holds Try.pinned (OpenSpec.ofChange gainHalvesWrong)

/-- 'gridworklaw26.GainSides': WHATEVER THE INPUT: true; the input reads as it did. -/
def gainSidesSpec : ChangeSpec := { name := "gainSides", fn := fun _ => fun
  | [d] => { results := [.lit (.bool true)], args := [d] }
  | _ => none }
def gainSidesRow : OpenClaim := { program := "ytnedjhoefmmelaa", sum := "9183c90ad2c415e277e6d3b32c2ce869edca1dcbeb780f160830c2802a43c7e6", func := "gridwork/gridworklaw26.GainSides", spec := "gainSides", inPlace := ["math.Float64frombits", "math.Float64bits"], apart := false }
def GainSidesSaid : Prop := gainSidesRow.holds Try.pinned (OpenSpec.ofChange gainSidesSpec)

/-- ITS FALSE NEIGHBOUR: 'it returns false'. Refute it at one input. -/
def gainSidesWrong : ChangeSpec := { name := "gainSides", fn := fun _ => fun
  | [d] => { results := [.lit (.bool false)], args := [d] }
  | _ => none }
def GainSidesWrongFalsely : Prop := gainSidesRow.holds Try.pinned (OpenSpec.ofChange gainSidesWrong)

/-- 'gridworklaw26.GainCalls': WHATEVER THE INPUT: true; the input reads as it did. -/
def gainCallsSpec : ChangeSpec := { name := "gainCalls", fn := fun _ => fun
  | [d1, d2] => { results := [.lit (.bool true)], args := [d1, d2] }
  | _ => none }
def gainCallsRow : OpenClaim := { program := "ytnedjhoefmmelaa", sum := "9183c90ad2c415e277e6d3b32c2ce869edca1dcbeb780f160830c2802a43c7e6", func := "gridwork/gridworklaw26.GainCalls", spec := "gainCalls", inPlace := ["math.Float64frombits", "math.Float64bits", "math.sqrt"], apart := false }
def GainCallsSaid : Prop := gainCallsRow.holds Try.pinned (OpenSpec.ofChange gainCallsSpec)

/-- ITS FALSE NEIGHBOUR: 'it returns false'. Refute it at one input. -/
def gainCallsWrong : ChangeSpec := { name := "gainCalls", fn := fun _ => fun
  | [d1, d2] => { results := [.lit (.bool false)], args := [d1, d2] }
  | _ => none }
def GainCallsWrongFalsely : Prop := gainCallsRow.holds Try.pinned (OpenSpec.ofChange gainCallsWrong)

/-- 'gridworklaw26.GainOnes': WHATEVER THE INPUT: true; the input reads as it did. -/
def gainOnesSpec : ChangeSpec := { name := "gainOnes", fn := fun _ => fun
  | [d1, d2] => { results := [.lit (.bool true)], args := [d1, d2] }
  | _ => none }
def gainOnesRow : OpenClaim := { program := "ytnedjhoefmmelaa", sum := "9183c90ad2c415e277e6d3b32c2ce869edca1dcbeb780f160830c2802a43c7e6", func := "gridwork/gridworklaw26.GainOnes", spec := "gainOnes", inPlace := ["math.Float64frombits", "math.Float64bits", "math.sqrt"], apart := false }
def GainOnesSaid : Prop := gainOnesRow.holds Try.pinned (OpenSpec.ofChange gainOnesSpec)

/-- ITS FALSE NEIGHBOUR: 'it returns false'. Refute it at one input. -/
def gainOnesWrong : ChangeSpec := { name := "gainOnes", fn := fun _ => fun
  | [d1, d2] => { results := [.lit (.bool false)], args := [d1, d2] }
  | _ => none }
def GainOnesWrongFalsely : Prop := gainOnesRow.holds Try.pinned (OpenSpec.ofChange gainOnesWrong)

/-- 'gridworklaw26.GainCurves': WHATEVER THE INPUT: true; the input reads as it did. -/
def gainCurvesSpec : ChangeSpec := { name := "gainCurves", fn := fun _ => fun
  | [d1, d2, d3, d4, d5] => { results := [.lit (.bool true)], args := [d1, d2, d3, d4, d5] }
  | _ => none }
def gainCurvesRow : OpenClaim := { program := "ytnedjhoefmmelaa", sum := "9183c90ad2c415e277e6d3b32c2ce869edca1dcbeb780f160830c2802a43c7e6", func := "gridwork/gridworklaw26.GainCurves", spec := "gainCurves", inPlace := ["math.Float64bits", "math.Float64frombits", "math.sqrt"], unfollowed := true, recurses := true, apart := false }
def GainCurvesSaid : Prop := gainCurvesRow.holds Try.pinned (OpenSpec.ofChange gainCurvesSpec)

/-- ITS FALSE NEIGHBOUR: 'it returns false'. Refute it at one input. -/
def gainCurvesWrong : ChangeSpec := { name := "gainCurves", fn := fun _ => fun
  | [d1, d2, d3, d4, d5] => { results := [.lit (.bool false)], args := [d1, d2, d3, d4, d5] }
  | _ => none }
def GainCurvesWrongFalsely : Prop := gainCurvesRow.holds Try.pinned (OpenSpec.ofChange gainCurvesWrong)

/- THE SECOND FORM. 'bulk': how many values and letters a reading holds, each counted each time it is reached (what is shared counts as often as it is met; a slice's spare places count too). A statement '..UptoSaid' is the law's where the arguments, and the package variables that the reading takes, are together of bulk at most 1048576: NARROWER than '..Said'. Prove '..Said' where nothing that the law and all that it calls make is longer than what came in: it says more and counts as full. Else prove '..UptoSaid'. A law counts once. -/
mutual
def uptoBulk {H : Type} : DataW H → Nat
  | .lit (.string bytes) => bytes.length + 1
  | .lit _ => 1
  | .nil => 1
  | .ptr d => uptoBulk d + 1
  | .slice elems spare => uptoBulkAll elems + uptoBulkAll spare + 1
  | .agg parts => uptoBulkAll parts + 1
  | .iface _ d => uptoBulk d + 1
  | .map entries => uptoBulkEntries entries + 1
  | .held _ => 1
def uptoBulkAll {H : Type} : List (DataW H) → Nat
  | [] => 0
  | d :: r => uptoBulk d + uptoBulkAll r
def uptoBulkEntries {H : Type} : List (Lit × DataW H) → Nat
  | [] => 0
  | x :: r => uptoBulkEntry x + uptoBulkEntries r
def uptoBulkEntry {H : Type} : Lit × DataW H → Nat
  | (.string bytes, d) => bytes.length + uptoBulk d + 1
  | (_, d) => uptoBulk d + 1
 end
def uptoSmall : (H : Type) → List (DataW H) → Bool := fun _ ds => decide (uptoBulkAll ds ≤ 1048576)
def OpenSpec.upto (s : _root_.Go.ChangeSpec) : _root_.Go.OpenSpec := { _root_.Go.OpenSpec.ofChange s with cond := some uptoSmall }

/-- 'gridworklaw26.GainHalves', WHERE WHAT IT READS IS OF BULK AT MOST 1048576: true; the input reads as it did. -/
def gainHalvesUptoRow : OpenClaim := { program := "ytnedjhoefmmelaa", sum := "9183c90ad2c415e277e6d3b32c2ce869edca1dcbeb780f160830c2802a43c7e6", func := "gridwork/gridworklaw26.GainHalves", spec := "gainHalves", inPlace := ["math.Float64frombits", "math.Float64bits"], apart := false, narrowed := true }
def GainHalvesUptoSaid : Prop := gainHalvesUptoRow.holds Try.pinned (OpenSpec.upto gainHalvesSpec)

/-- 'gridworklaw26.GainSides', WHERE WHAT IT READS IS OF BULK AT MOST 1048576: true; the input reads as it did. -/
def gainSidesUptoRow : OpenClaim := { program := "ytnedjhoefmmelaa", sum := "9183c90ad2c415e277e6d3b32c2ce869edca1dcbeb780f160830c2802a43c7e6", func := "gridwork/gridworklaw26.GainSides", spec := "gainSides", inPlace := ["math.Float64frombits", "math.Float64bits"], apart := false, narrowed := true }
def GainSidesUptoSaid : Prop := gainSidesUptoRow.holds Try.pinned (OpenSpec.upto gainSidesSpec)

/-- 'gridworklaw26.GainCalls', WHERE WHAT IT READS IS OF BULK AT MOST 1048576: true; the input reads as it did. -/
def gainCallsUptoRow : OpenClaim := { program := "ytnedjhoefmmelaa", sum := "9183c90ad2c415e277e6d3b32c2ce869edca1dcbeb780f160830c2802a43c7e6", func := "gridwork/gridworklaw26.GainCalls", spec := "gainCalls", inPlace := ["math.Float64frombits", "math.Float64bits", "math.sqrt"], apart := false, narrowed := true }
def GainCallsUptoSaid : Prop := gainCallsUptoRow.holds Try.pinned (OpenSpec.upto gainCallsSpec)

/-- 'gridworklaw26.GainOnes', WHERE WHAT IT READS IS OF BULK AT MOST 1048576: true; the input reads as it did. -/
def gainOnesUptoRow : OpenClaim := { program := "ytnedjhoefmmelaa", sum := "9183c90ad2c415e277e6d3b32c2ce869edca1dcbeb780f160830c2802a43c7e6", func := "gridwork/gridworklaw26.GainOnes", spec := "gainOnes", inPlace := ["math.Float64frombits", "math.Float64bits", "math.sqrt"], apart := false, narrowed := true }
def GainOnesUptoSaid : Prop := gainOnesUptoRow.holds Try.pinned (OpenSpec.upto gainOnesSpec)

/-- 'gridworklaw26.GainCurves', WHERE WHAT IT READS IS OF BULK AT MOST 1048576: true; the input reads as it did. -/
def gainCurvesUptoRow : OpenClaim := { program := "ytnedjhoefmmelaa", sum := "9183c90ad2c415e277e6d3b32c2ce869edca1dcbeb780f160830c2802a43c7e6", func := "gridwork/gridworklaw26.GainCurves", spec := "gainCurves", inPlace := ["math.Float64bits", "math.Float64frombits", "math.sqrt"], unfollowed := true, recurses := true, apart := false, narrowed := true }
def GainCurvesUptoSaid : Prop := gainCurvesUptoRow.holds Try.pinned (OpenSpec.upto gainCurvesSpec)

end Rows
end Go.Proofs.Ytnedjhoefmmelaa
