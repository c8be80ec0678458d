/-
  DERIVED. GIVEN WITH THE SEED: THE CARDS: each row of YtkjklnnjaiggdaaDoorRows.lean that lists a variable, with what it lists TIED to the program's text (the seventh form; the later family's looks); each row that meets fmt, with fmt's text TOLD by the authors' own Lean function (tested against real Go, not proved from fmt's source: count such statements apart). THE CARD IS WHAT COUNTS. Prove the row's statement (the work); the ties are given (YtkjklnnjaiggdaaDoorTie.lean); close each card by the builder's one call (the guide's Derived/Test/ToyasCard.lean, 'card_holds'). Laid BY PROGRAM, IN A SANDBOX (cutbox-door.mjs). By AI agents, Wed Nov 11 2026. No macro, syntax, notation, axiom, sorry.
-/
import Derived.Test.YtkjklnnjaiggdaaDoorRows
import GoSem.ClaimSeven
namespace Go.Proofs.YtkjklnnjaiggdaaDoor
namespace Rows

/-- THE TIED CARD OF 'gridworklaw14.TokensBare'. -/
def tokensBareCard : Claim7 := { stood := { row := tokensBareRow, standIns := [], harness := (true, "7983965d4e3cc338970675f3ea38c3dbd5e5487b3e6d5d846f787b4a490f9693"), looks := false }, kinds := [], alts := [], laidByText := true, laidKinds := [.data, .pinned], laidTests := true, laidLooks := .later }
def TokensBareCardSaid : Prop := Claim7.holds Tryd.pinned (.plain (OpenSpec.ofChange tokensBareSpec)) tokensBareCard

/-- THE TIED CARD OF 'gridworklaw14.TokensBack'. -/
def tokensBackCard : Claim7 := { stood := { row := tokensBackRow, standIns := [], harness := (true, "7983965d4e3cc338970675f3ea38c3dbd5e5487b3e6d5d846f787b4a490f9693"), looks := false }, kinds := [], alts := [], laidByText := true, laidKinds := [.data, .pinned], laidTests := true, laidLooks := .later }
def TokensBackCardSaid : Prop := Claim7.holds Tryd.pinned (.plain (OpenSpec.ofChange tokensBackSpec)) tokensBackCard

/-- THE SECOND FORM's CARD OF 'gridworklaw14.TokensBare'. -/
def tokensBareUptoCard : Claim7 := { stood := { row := tokensBareUptoRow, standIns := [], harness := (true, "7983965d4e3cc338970675f3ea38c3dbd5e5487b3e6d5d846f787b4a490f9693"), looks := false }, kinds := [], alts := [], laidByText := true, laidKinds := [.data, .pinned], laidTests := true, laidLooks := .later }
def TokensBareUptoCardSaid : Prop := Claim7.holds Tryd.pinned (.plain (OpenSpec.upto tokensBareSpec)) tokensBareUptoCard

/-- THE SECOND FORM's CARD OF 'gridworklaw14.TokensBack'. -/
def tokensBackUptoCard : Claim7 := { stood := { row := tokensBackUptoRow, standIns := [], harness := (true, "7983965d4e3cc338970675f3ea38c3dbd5e5487b3e6d5d846f787b4a490f9693"), looks := false }, kinds := [], alts := [], laidByText := true, laidKinds := [.data, .pinned], laidTests := true, laidLooks := .later }
def TokensBackUptoCardSaid : Prop := Claim7.holds Tryd.pinned (.plain (OpenSpec.upto tokensBackSpec)) tokensBackUptoCard
end Rows
end Go.Proofs.YtkjklnnjaiggdaaDoor
