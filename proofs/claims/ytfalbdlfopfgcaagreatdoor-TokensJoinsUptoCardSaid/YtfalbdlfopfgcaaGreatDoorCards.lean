/-
  DERIVED. GIVEN WITH THE SEED: THE CARDS: each row of YtfalbdlfopfgcaaGreatDoorRows.lean that lists a variable, with what it lists TIED to the program's text (the seventh form; the later family's looks); each row that meets fmt, with fmt's text TOLD by the authors' own Lean function (tested against real Go, not proved from fmt's source: count such statements apart). THE CARD IS WHAT COUNTS. Prove the row's statement (the work); the ties are given (YtfalbdlfopfgcaaGreatDoorTie.lean); close each card by the builder's one call (the guide's Derived/Test/ToyasCard.lean, 'card_holds'). Laid BY PROGRAM, IN A SANDBOX (cutbox-door.mjs). By AI agents, Wed Nov 11 2026. No macro, syntax, notation, axiom, sorry.
-/
import Derived.Test.YtfalbdlfopfgcaaGreatDoorRows
import GoSem.ClaimSeven
namespace Go.Proofs.YtfalbdlfopfgcaaGreatDoor
namespace Rows

/-- THE TIED CARD OF 'gridworklaw14.TokensNames'. -/
def tokensNamesCard : Claim7 := { stood := { row := tokensNamesRow, standIns := [], harness := (true, "d7cd94d06b56bd2dc06ac304353cc54b861100091ce251113aa173fded991207"), looks := true }, kinds := [], alts := [], laidByText := true, laidKinds := [.data, .data, .widerDeep, .widerDeep, .data, .data, .data, .data, .data, .sentinel, .sentinel, .pinned, .pinned], laidTests := true, laidLooks := .later }
def TokensNamesCardSaid : Prop := Claim7.holds Tryz.pinned (.plain (OpenSpec.ofChange tokensNamesSpec)) tokensNamesCard

/-- THE TIED CARD OF 'gridworklaw26.GainOctaves'. -/
def gainOctavesCard : Claim7 := { stood := { row := gainOctavesRow, standIns := [], harness := (true, "d7cd94d06b56bd2dc06ac304353cc54b861100091ce251113aa173fded991207"), looks := true }, kinds := [], alts := [], laidByText := true, laidKinds := [.data, .data, .widerDeep, .widerDeep, .data, .data, .data, .data, .data, .sentinel, .sentinel, .pinned, .pinned], laidTests := true, laidLooks := .later }
def GainOctavesCardSaid : Prop := Claim7.holds Tryz.pinned (.plain (OpenSpec.ofChange gainOctavesSpec)) gainOctavesCard

/-- THE TIED CARD OF 'gridworklaw26.GainNames'. -/
def gainNamesCard : Claim7 := { stood := { row := gainNamesRow, standIns := [], harness := (true, "d7cd94d06b56bd2dc06ac304353cc54b861100091ce251113aa173fded991207"), looks := true }, kinds := [], alts := [], laidByText := true, laidKinds := [.data, .data, .widerDeep, .widerDeep, .data, .data, .data, .data, .data, .sentinel, .sentinel, .pinned, .pinned], laidTests := true, laidLooks := .later }
def GainNamesCardSaid : Prop := Claim7.holds Tryz.pinned (.plain (OpenSpec.ofChange gainNamesSpec)) gainNamesCard

/-- THE TIED CARD OF 'gridworklaw14.TokensJoins'. -/
def tokensJoinsCard : Claim7 := { stood := { row := tokensJoinsRow, standIns := [], harness := (true, "d7cd94d06b56bd2dc06ac304353cc54b861100091ce251113aa173fded991207"), looks := true }, kinds := [], alts := [], laidByText := true, laidKinds := [.data, .data, .widerDeep, .widerDeep, .data, .data, .data, .data, .data, .sentinel, .sentinel, .pinned, .pinned], laidTests := true, laidLooks := .later }
def TokensJoinsCardSaid : Prop := Claim7.holds Tryz.pinned (.plain (OpenSpec.ofChange tokensJoinsSpec)) tokensJoinsCard

/-- THE SECOND FORM's CARD OF 'gridworklaw14.TokensNames'. -/
def tokensNamesUptoCard : Claim7 := { stood := { row := tokensNamesUptoRow, standIns := [], harness := (true, "d7cd94d06b56bd2dc06ac304353cc54b861100091ce251113aa173fded991207"), looks := true }, kinds := [], alts := [], laidByText := true, laidKinds := [.data, .data, .widerDeep, .widerDeep, .data, .data, .data, .data, .data, .sentinel, .sentinel, .pinned, .pinned], laidTests := true, laidLooks := .later }
def TokensNamesUptoCardSaid : Prop := Claim7.holds Tryz.pinned (.plain (OpenSpec.upto tokensNamesSpec)) tokensNamesUptoCard

/-- THE SECOND FORM's CARD OF 'gridworklaw26.GainOctaves'. -/
def gainOctavesUptoCard : Claim7 := { stood := { row := gainOctavesUptoRow, standIns := [], harness := (true, "d7cd94d06b56bd2dc06ac304353cc54b861100091ce251113aa173fded991207"), looks := true }, kinds := [], alts := [], laidByText := true, laidKinds := [.data, .data, .widerDeep, .widerDeep, .data, .data, .data, .data, .data, .sentinel, .sentinel, .pinned, .pinned], laidTests := true, laidLooks := .later }
def GainOctavesUptoCardSaid : Prop := Claim7.holds Tryz.pinned (.plain (OpenSpec.upto gainOctavesSpec)) gainOctavesUptoCard

/-- THE SECOND FORM's CARD OF 'gridworklaw26.GainNames'. -/
def gainNamesUptoCard : Claim7 := { stood := { row := gainNamesUptoRow, standIns := [], harness := (true, "d7cd94d06b56bd2dc06ac304353cc54b861100091ce251113aa173fded991207"), looks := true }, kinds := [], alts := [], laidByText := true, laidKinds := [.data, .data, .widerDeep, .widerDeep, .data, .data, .data, .data, .data, .sentinel, .sentinel, .pinned, .pinned], laidTests := true, laidLooks := .later }
def GainNamesUptoCardSaid : Prop := Claim7.holds Tryz.pinned (.plain (OpenSpec.upto gainNamesSpec)) gainNamesUptoCard

/-- THE SECOND FORM's CARD OF 'gridworklaw14.TokensJoins'. -/
def tokensJoinsUptoCard : Claim7 := { stood := { row := tokensJoinsUptoRow, standIns := [], harness := (true, "d7cd94d06b56bd2dc06ac304353cc54b861100091ce251113aa173fded991207"), looks := true }, kinds := [], alts := [], laidByText := true, laidKinds := [.data, .data, .widerDeep, .widerDeep, .data, .data, .data, .data, .data, .sentinel, .sentinel, .pinned, .pinned], laidTests := true, laidLooks := .later }
def TokensJoinsUptoCardSaid : Prop := Claim7.holds Tryz.pinned (.plain (OpenSpec.upto tokensJoinsSpec)) tokensJoinsUptoCard
end Rows
end Go.Proofs.YtfalbdlfopfgcaaGreatDoor
