/-
  DERIVED. GIVEN WITH THE SEED: THE CARDS: each row of YtjkbdgglljpllabGreatDoorRows.lean that lists a variable, with what it lists TIED to the program's text (the seventh form; the later family's looks); each row that meets fmt, with fmt's text TOLD by the authors' own Lean function (tested against real Go, not proved from fmt's source: count such statements apart). THE CARD IS WHAT COUNTS. Prove the row's statement (the work); the ties are given (YtjkbdgglljpllabGreatDoorTie.lean); close each card by the builder's one call (the guide's Derived/Test/ToyasCard.lean, 'card_holds'). Laid BY PROGRAM, IN A SANDBOX (cutbox-door.mjs). By AI agents, Wed Nov 11 2026. No macro, syntax, notation, axiom, sorry.
-/
import Derived.Test.YtjkbdgglljpllabGreatDoorRows
import GoSem.ClaimSeven
namespace Go.Proofs.YtjkbdgglljpllabGreatDoor
namespace Rows

/-- THE TIED CARD OF 'ossuarylaw19.StatsGuess'. -/
def statsGuessCard : Claim7 := { stood := { row := statsGuessRow, standIns := [], harness := (true, "f8e6dc2ee6608228af1952e76b49b5da5a24edd132e3e751573abcdd2afa154e"), looks := true }, kinds := [], alts := [], laidByText := true, laidKinds := [.data, .data, .data, .data, .sentinel, .sentinel, .pinned, .pinned], laidTests := true, laidLooks := .later }
def StatsGuessCardSaid : Prop := Claim7.holds Tryz.pinned (.plain (OpenSpec.ofChange statsGuessSpec)) statsGuessCard

/-- THE SECOND FORM's CARD OF 'ossuarylaw19.StatsGuess'. -/
def statsGuessUptoCard : Claim7 := { stood := { row := statsGuessUptoRow, standIns := [], harness := (true, "f8e6dc2ee6608228af1952e76b49b5da5a24edd132e3e751573abcdd2afa154e"), looks := true }, kinds := [], alts := [], laidByText := true, laidKinds := [.data, .data, .data, .data, .sentinel, .sentinel, .pinned, .pinned], laidTests := true, laidLooks := .later }
def StatsGuessUptoCardSaid : Prop := Claim7.holds Tryz.pinned (.plain (OpenSpec.upto statsGuessSpec)) statsGuessUptoCard
end Rows
end Go.Proofs.YtjkbdgglljpllabGreatDoor
