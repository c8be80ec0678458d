/-
  No cell of these rows narrows 'for every input' (looked for: loops, veiled, ifaces, maps, wideKeys, modest, calm, conditions, laid).
  DERIVED. THE GIVEN ROWS OF THIS SEAT. 2 by the template 'for every input the law returns true; each argument reads behind the call as it read before'; 0 by the template 'total and deterministic' (their statements: YtkjklnnjaiggdaaTotals.lean).
  GIVEN WITH THE SEED: the statements are not yours to turn. If you find one false, say at which input.
  Laid BY PROGRAM, IN A SANDBOX (cutbox-rows.mjs): the forced cells as the released guide's own fill.sh prints them over the translation 622d8ca7d40f7abc… (all of the seat's roots in one cut). By AI agents, Wed Nov 11 2026. No macro, syntax, notation, axiom, sorry.
-/
import Derived.Test.YtkjklnnjaiggdaaChecked
import GoSem.Claim
import GoSem.ClaimJoined
import GoSem.ClaimMapViews
import Derived.JoinedTies
import Derived.KernelRfl
namespace Go.Proofs.Ytkjklnnjaiggdaa
/- THE CELL 'sum', in the pinned program and in every row, IS THE sha256 OF THE DUMP (.gsa) THAT YtkjklnnjaiggdaaProg.lean LOADS. Nothing in Lean hashes anything: it is a label: what it is worth is what the hold of that sum in a sandbox is worth. -/
noncomputable def Try.pinned : Pinned := { name := "ytkjklnnjaiggdaa", sum := "622d8ca7d40f7abc0242f006dd4830773d75c835f2ae361fb293707535743b16", checked := Try.checked }
namespace Rows
def none {H : Type} : Left H := { results := [], args := [] }

/-- 'gridworklaw14.TokensCuts': WHATEVER THE INPUT: true; the input reads as it did. -/
def tokensCutsSpec : ChangeSpec := { name := "tokensCuts", fn := fun _ => fun
  | [d] => { results := [.lit (.bool true)], args := [d] }
  | _ => none }
def tokensCutsRow : OpenClaim := { program := "ytkjklnnjaiggdaa", sum := "622d8ca7d40f7abc0242f006dd4830773d75c835f2ae361fb293707535743b16", func := "gridwork/gridworklaw14.TokensCuts", spec := "tokensCuts", inPlace := ["internal/bytealg.IndexByteString", "internal/bytealg.IndexString", "internal/abi.NoEscape"], named := ["internal/bytealg.MaxLen"], apart := false }
def TokensCutsSaid : Prop := tokensCutsRow.holds Try.pinned (OpenSpec.ofChange tokensCutsSpec)

/-- ITS FALSE NEIGHBOUR: 'it returns false'. Refute it at one input. -/
def tokensCutsWrong : ChangeSpec := { name := "tokensCuts", fn := fun _ => fun
  | [d] => { results := [.lit (.bool false)], args := [d] }
  | _ => none }
def TokensCutsWrongFalsely : Prop := tokensCutsRow.holds Try.pinned (OpenSpec.ofChange tokensCutsWrong)

/-- 'gridworklaw14.TokensLong': WHATEVER THE INPUT: true; the input reads as it did. -/
def tokensLongSpec : ChangeSpec := { name := "tokensLong", fn := fun _ => fun
  | [] => { results := [.lit (.bool true)], args := [] }
  | _ => none }
def tokensLongRow : OpenClaim := { program := "ytkjklnnjaiggdaa", sum := "622d8ca7d40f7abc0242f006dd4830773d75c835f2ae361fb293707535743b16", func := "gridwork/gridworklaw14.TokensLong", spec := "tokensLong", inPlace := ["internal/abi.NoEscape", "internal/bytealg.MakeNoZero", "internal/bytealg.IndexByteString", "internal/bytealg.IndexString"], named := ["internal/bytealg.MaxLen"], apart := false }
def TokensLongSaid : Prop := tokensLongRow.holds Try.pinned (OpenSpec.ofChange tokensLongSpec)

/-- ITS FALSE NEIGHBOUR: 'it returns false'. Refute it at one input. -/
def tokensLongWrong : ChangeSpec := { name := "tokensLong", fn := fun _ => fun
  | [] => { results := [.lit (.bool false)], args := [] }
  | _ => none }
def TokensLongWrongFalsely : Prop := tokensLongRow.holds Try.pinned (OpenSpec.ofChange tokensLongWrong)

/- THE SECOND FORM. 'bulk': how many values and letters a reading holds, each counted each time it is reached (what is shared counts as often as it is met; a slice's spare places count too). A statement '..UptoSaid' is the law's where the arguments, and the package variables that the reading takes, are together of bulk at most 1048576: NARROWER than '..Said'. Prove '..Said' where nothing that the law and all that it calls make is longer than what came in: it says more and counts as full. Else prove '..UptoSaid'. A law counts once. -/
mutual
def uptoBulk {H : Type} : DataW H → Nat
  | .lit (.string bytes) => bytes.length + 1
  | .lit _ => 1
  | .nil => 1
  | .ptr d => uptoBulk d + 1
  | .slice elems spare => uptoBulkAll elems + uptoBulkAll spare + 1
  | .agg parts => uptoBulkAll parts + 1
  | .iface _ d => uptoBulk d + 1
  | .map entries => uptoBulkEntries entries + 1
  | .held _ => 1
def uptoBulkAll {H : Type} : List (DataW H) → Nat
  | [] => 0
  | d :: r => uptoBulk d + uptoBulkAll r
def uptoBulkEntries {H : Type} : List (Lit × DataW H) → Nat
  | [] => 0
  | x :: r => uptoBulkEntry x + uptoBulkEntries r
def uptoBulkEntry {H : Type} : Lit × DataW H → Nat
  | (.string bytes, d) => bytes.length + uptoBulk d + 1
  | (_, d) => uptoBulk d + 1
 end
def uptoSmall : (H : Type) → List (DataW H) → Bool := fun _ ds => decide (uptoBulkAll ds ≤ 1048576)
def OpenSpec.upto (s : _root_.Go.ChangeSpec) : _root_.Go.OpenSpec := { _root_.Go.OpenSpec.ofChange s with cond := some uptoSmall }

/-- 'gridworklaw14.TokensCuts', WHERE WHAT IT READS IS OF BULK AT MOST 1048576: true; the input reads as it did. -/
def tokensCutsUptoRow : OpenClaim := { program := "ytkjklnnjaiggdaa", sum := "622d8ca7d40f7abc0242f006dd4830773d75c835f2ae361fb293707535743b16", func := "gridwork/gridworklaw14.TokensCuts", spec := "tokensCuts", inPlace := ["internal/bytealg.IndexByteString", "internal/bytealg.IndexString", "internal/abi.NoEscape"], named := ["internal/bytealg.MaxLen"], apart := false, narrowed := true }
def TokensCutsUptoSaid : Prop := tokensCutsUptoRow.holds Try.pinned (OpenSpec.upto tokensCutsSpec)

/-- 'gridworklaw14.TokensLong', WHERE WHAT IT READS IS OF BULK AT MOST 1048576: true; the input reads as it did. -/
def tokensLongUptoRow : OpenClaim := { program := "ytkjklnnjaiggdaa", sum := "622d8ca7d40f7abc0242f006dd4830773d75c835f2ae361fb293707535743b16", func := "gridwork/gridworklaw14.TokensLong", spec := "tokensLong", inPlace := ["internal/abi.NoEscape", "internal/bytealg.MakeNoZero", "internal/bytealg.IndexByteString", "internal/bytealg.IndexString"], named := ["internal/bytealg.MaxLen"], apart := false, narrowed := true }
def TokensLongUptoSaid : Prop := tokensLongUptoRow.holds Try.pinned (OpenSpec.upto tokensLongSpec)

end Rows
end Go.Proofs.Ytkjklnnjaiggdaa
