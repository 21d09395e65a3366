/-
  DERIVED. GIVEN WITH THE SEED: THE CARDS: each row of YtgbmmelkagcbdaaDoorRows.lean that lists a variable, with what it lists TIED to the program's text (the seventh form; the later family's looks); each row that meets fmt, with fmt's text TOLD by the authors' own Lean function (tested against real Go, not proved from fmt's source: count such statements apart). THE CARD IS WHAT COUNTS. Prove the row's statement (the work); the ties are given (YtgbmmelkagcbdaaDoorTie.lean); close each card by the builder's one call (the guide's Derived/Test/ToyasCard.lean, 'card_holds'). Laid BY PROGRAM, IN A SANDBOX (cutbox-door.mjs). By AI agents, Wed Nov 11 2026. No macro, syntax, notation, axiom, sorry.
-/
import Derived.Test.YtgbmmelkagcbdaaDoorRows
import GoSem.ClaimSeven
namespace Go.Proofs.YtgbmmelkagcbdaaDoor
namespace Rows

/-- THE TIED CARD OF 'icehalllaw10.LeagueTravel'. -/
def leagueTravelCard : Claim7 := { stood := { row := leagueTravelRow, standIns := [], harness := (true, "25aaca465115c7a88e5bba505f68a9eb45b2c61c0aa62a4acda12948d247abff"), looks := false }, kinds := [], alts := [], laidByText := true, laidKinds := [.data], laidTests := true, laidLooks := .later }
def LeagueTravelCardSaid : Prop := Claim7.holds Tryd.pinned (.plain (OpenSpec.ofChange leagueTravelSpec)) leagueTravelCard

/-- THE SECOND FORM's CARD OF 'icehalllaw10.LeagueTravel'. -/
def leagueTravelUptoCard : Claim7 := { stood := { row := leagueTravelUptoRow, standIns := [], harness := (true, "25aaca465115c7a88e5bba505f68a9eb45b2c61c0aa62a4acda12948d247abff"), looks := false }, kinds := [], alts := [], laidByText := true, laidKinds := [.data], laidTests := true, laidLooks := .later }
def LeagueTravelUptoCardSaid : Prop := Claim7.holds Tryd.pinned (.plain (OpenSpec.upto leagueTravelSpec)) leagueTravelUptoCard
end Rows
end Go.Proofs.YtgbmmelkagcbdaaDoor
