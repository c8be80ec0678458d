/-
  DERIVED. GIVEN WITH THE SEED: THE CARDS: each row of YtjpimgdmlieinaaDoorRows.lean that lists a variable, with what it lists TIED to the program's text (the seventh form; the later family's looks); each row that meets fmt, with fmt's text TOLD by the authors' own Lean function (tested against real Go, not proved from fmt's source: count such statements apart). THE CARD IS WHAT COUNTS. Prove the row's statement (the work); the ties are given (YtjpimgdmlieinaaDoorTie.lean); close each card by the builder's one call (the guide's Derived/Test/ToyasCard.lean, 'card_holds'). Laid BY PROGRAM, IN A SANDBOX (cutbox-door.mjs). By AI agents, Wed Nov 11 2026. No macro, syntax, notation, axiom, sorry.
-/
import Derived.Test.YtjpimgdmlieinaaDoorRows
import GoSem.ClaimSeven
namespace Go.Proofs.YtjpimgdmlieinaaDoor
namespace Rows

/-- THE TIED CARD OF 'gridworklaw29.LadderReal'. -/
def ladderRealCard : Claim7 := { stood := { row := ladderRealRow, standIns := [], harness := (true, "174c2e6a3758f799c9bf03d3b1efd96b0fd68527d76b03bea7159344559258b0"), looks := false }, kinds := [], alts := [], laidByText := true, laidKinds := [.data, .data, .data], laidTests := true, laidLooks := .later }
def LadderRealCardSaid : Prop := Claim7.holds Tryd.pinned (.plain (OpenSpec.ofChange ladderRealSpec)) ladderRealCard

/-- THE TIED CARD OF 'gridworklaw29.LadderCalls'. -/
def ladderCallsCard : Claim7 := { stood := { row := ladderCallsRow, standIns := [], harness := (true, "174c2e6a3758f799c9bf03d3b1efd96b0fd68527d76b03bea7159344559258b0"), looks := false }, kinds := [], alts := [], laidByText := true, laidKinds := [.data, .data, .data], laidTests := true, laidLooks := .later }
def LadderCallsCardSaid : Prop := Claim7.holds Tryd.pinned (.plain (OpenSpec.ofChange ladderCallsSpec)) ladderCallsCard

/-- THE TIED CARD OF 'gridworklaw29.PolyReckons'. -/
def polyReckonsCard : Claim7 := { stood := { row := polyReckonsRow, standIns := [], harness := (true, "174c2e6a3758f799c9bf03d3b1efd96b0fd68527d76b03bea7159344559258b0"), looks := false }, kinds := [], alts := [], laidByText := true, laidKinds := [.data, .data, .data], laidTests := true, laidLooks := .later }
def PolyReckonsCardSaid : Prop := Claim7.holds Tryd.pinned (.plain (OpenSpec.ofChange polyReckonsSpec)) polyReckonsCard

/-- THE TIED CARD OF 'gridworklaw29.PolyRing'. -/
def polyRingCard : Claim7 := { stood := { row := polyRingRow, standIns := [], harness := (true, "174c2e6a3758f799c9bf03d3b1efd96b0fd68527d76b03bea7159344559258b0"), looks := false }, kinds := [], alts := [], laidByText := true, laidKinds := [.data, .data, .data], laidTests := true, laidLooks := .later }
def PolyRingCardSaid : Prop := Claim7.holds Tryd.pinned (.plain (OpenSpec.ofChange polyRingSpec)) polyRingCard

/-- THE TIED CARD OF 'gridworklaw29.PolyNewton'. -/
def polyNewtonCard : Claim7 := { stood := { row := polyNewtonRow, standIns := [], harness := (true, "174c2e6a3758f799c9bf03d3b1efd96b0fd68527d76b03bea7159344559258b0"), looks := false }, kinds := [], alts := [], laidByText := true, laidKinds := [.data, .data, .data], laidTests := true, laidLooks := .later }
def PolyNewtonCardSaid : Prop := Claim7.holds Tryd.pinned (.plain (OpenSpec.ofChange polyNewtonSpec)) polyNewtonCard

/-- THE TIED CARD OF 'gridworklaw29.PolyNearer'. -/
def polyNearerCard : Claim7 := { stood := { row := polyNearerRow, standIns := [], harness := (true, "174c2e6a3758f799c9bf03d3b1efd96b0fd68527d76b03bea7159344559258b0"), looks := false }, kinds := [], alts := [], laidByText := true, laidKinds := [.data, .data, .data], laidTests := true, laidLooks := .later }
def PolyNearerCardSaid : Prop := Claim7.holds Tryd.pinned (.plain (OpenSpec.ofChange polyNearerSpec)) polyNearerCard

/-- THE TIED CARD OF 'gridworklaw29.LadderNames'. -/
def ladderNamesCard : Claim7 := { stood := { row := ladderNamesRow, standIns := [], harness := (true, "174c2e6a3758f799c9bf03d3b1efd96b0fd68527d76b03bea7159344559258b0"), looks := false }, kinds := [], alts := [], laidByText := true, laidKinds := [.data, .data, .data], laidTests := true, laidLooks := .later }
def LadderNamesCardSaid : Prop := Claim7.holds Tryd.pinned (.plain (OpenSpec.ofChange ladderNamesSpec)) ladderNamesCard

/-- THE SECOND FORM's CARD OF 'gridworklaw29.LadderReal'. -/
def ladderRealUptoCard : Claim7 := { stood := { row := ladderRealUptoRow, standIns := [], harness := (true, "174c2e6a3758f799c9bf03d3b1efd96b0fd68527d76b03bea7159344559258b0"), looks := false }, kinds := [], alts := [], laidByText := true, laidKinds := [.data, .data, .data], laidTests := true, laidLooks := .later }
def LadderRealUptoCardSaid : Prop := Claim7.holds Tryd.pinned (.plain (OpenSpec.upto ladderRealSpec)) ladderRealUptoCard

/-- THE SECOND FORM's CARD OF 'gridworklaw29.LadderCalls'. -/
def ladderCallsUptoCard : Claim7 := { stood := { row := ladderCallsUptoRow, standIns := [], harness := (true, "174c2e6a3758f799c9bf03d3b1efd96b0fd68527d76b03bea7159344559258b0"), looks := false }, kinds := [], alts := [], laidByText := true, laidKinds := [.data, .data, .data], laidTests := true, laidLooks := .later }
def LadderCallsUptoCardSaid : Prop := Claim7.holds Tryd.pinned (.plain (OpenSpec.upto ladderCallsSpec)) ladderCallsUptoCard

/-- THE SECOND FORM's CARD OF 'gridworklaw29.PolyReckons'. -/
def polyReckonsUptoCard : Claim7 := { stood := { row := polyReckonsUptoRow, standIns := [], harness := (true, "174c2e6a3758f799c9bf03d3b1efd96b0fd68527d76b03bea7159344559258b0"), looks := false }, kinds := [], alts := [], laidByText := true, laidKinds := [.data, .data, .data], laidTests := true, laidLooks := .later }
def PolyReckonsUptoCardSaid : Prop := Claim7.holds Tryd.pinned (.plain (OpenSpec.upto polyReckonsSpec)) polyReckonsUptoCard

/-- THE SECOND FORM's CARD OF 'gridworklaw29.PolyRing'. -/
def polyRingUptoCard : Claim7 := { stood := { row := polyRingUptoRow, standIns := [], harness := (true, "174c2e6a3758f799c9bf03d3b1efd96b0fd68527d76b03bea7159344559258b0"), looks := false }, kinds := [], alts := [], laidByText := true, laidKinds := [.data, .data, .data], laidTests := true, laidLooks := .later }
def PolyRingUptoCardSaid : Prop := Claim7.holds Tryd.pinned (.plain (OpenSpec.upto polyRingSpec)) polyRingUptoCard

/-- THE SECOND FORM's CARD OF 'gridworklaw29.PolyNewton'. -/
def polyNewtonUptoCard : Claim7 := { stood := { row := polyNewtonUptoRow, standIns := [], harness := (true, "174c2e6a3758f799c9bf03d3b1efd96b0fd68527d76b03bea7159344559258b0"), looks := false }, kinds := [], alts := [], laidByText := true, laidKinds := [.data, .data, .data], laidTests := true, laidLooks := .later }
def PolyNewtonUptoCardSaid : Prop := Claim7.holds Tryd.pinned (.plain (OpenSpec.upto polyNewtonSpec)) polyNewtonUptoCard

/-- THE SECOND FORM's CARD OF 'gridworklaw29.PolyNearer'. -/
def polyNearerUptoCard : Claim7 := { stood := { row := polyNearerUptoRow, standIns := [], harness := (true, "174c2e6a3758f799c9bf03d3b1efd96b0fd68527d76b03bea7159344559258b0"), looks := false }, kinds := [], alts := [], laidByText := true, laidKinds := [.data, .data, .data], laidTests := true, laidLooks := .later }
def PolyNearerUptoCardSaid : Prop := Claim7.holds Tryd.pinned (.plain (OpenSpec.upto polyNearerSpec)) polyNearerUptoCard

/-- THE SECOND FORM's CARD OF 'gridworklaw29.LadderNames'. -/
def ladderNamesUptoCard : Claim7 := { stood := { row := ladderNamesUptoRow, standIns := [], harness := (true, "174c2e6a3758f799c9bf03d3b1efd96b0fd68527d76b03bea7159344559258b0"), looks := false }, kinds := [], alts := [], laidByText := true, laidKinds := [.data, .data, .data], laidTests := true, laidLooks := .later }
def LadderNamesUptoCardSaid : Prop := Claim7.holds Tryd.pinned (.plain (OpenSpec.upto ladderNamesSpec)) ladderNamesUptoCard
end Rows
end Go.Proofs.YtjpimgdmlieinaaDoor
