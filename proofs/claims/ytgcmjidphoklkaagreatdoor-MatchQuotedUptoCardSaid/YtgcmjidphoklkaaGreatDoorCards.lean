/-
  DERIVED. GIVEN WITH THE SEED: THE CARDS: each row of YtgcmjidphoklkaaGreatDoorRows.lean that lists a variable, with what it lists TIED to the program's text (the seventh form; the later family's looks); each row that meets fmt, with fmt's text TOLD by the authors' own Lean function (tested against real Go, not proved from fmt's source: count such statements apart). THE CARD IS WHAT COUNTS. Prove the row's statement (the work); the ties are given (YtgcmjidphoklkaaGreatDoorTie.lean); close each card by the builder's one call (the guide's Derived/Test/ToyasCard.lean, 'card_holds'). Laid BY PROGRAM, IN A SANDBOX (cutbox-door.mjs). By AI agents, Wed Nov 11 2026. No macro, syntax, notation, axiom, sorry.
-/
import Derived.Test.YtgcmjidphoklkaaGreatDoorRows
import GoSem.ClaimSeven
namespace Go.Proofs.YtgcmjidphoklkaaGreatDoor
namespace Rows

/-- THE TIED CARD OF 'tocsinlaw06.MatchQuoted'. -/
def matchQuotedCard : Claim7 := { stood := { row := matchQuotedRow, standIns := [], harness := (true, "467385a798c2cff5303f552f6c14e3269b66b1769e67dea46ee2efb4f12a8c03"), looks := true }, kinds := [], alts := [], laidByText := true, laidKinds := [.data, .pinned], laidTests := true, laidLooks := .later }
def MatchQuotedCardSaid : Prop := Claim7.holds Tryz.pinned (.plain (OpenSpec.ofChange matchQuotedSpec)) matchQuotedCard

/-- THE SECOND FORM's CARD OF 'tocsinlaw06.MatchQuoted'. -/
def matchQuotedUptoCard : Claim7 := { stood := { row := matchQuotedUptoRow, standIns := [], harness := (true, "467385a798c2cff5303f552f6c14e3269b66b1769e67dea46ee2efb4f12a8c03"), looks := true }, kinds := [], alts := [], laidByText := true, laidKinds := [.data, .pinned], laidTests := true, laidLooks := .later }
def MatchQuotedUptoCardSaid : Prop := Claim7.holds Tryz.pinned (.plain (OpenSpec.upto matchQuotedSpec)) matchQuotedUptoCard
end Rows
end Go.Proofs.YtgcmjidphoklkaaGreatDoor
