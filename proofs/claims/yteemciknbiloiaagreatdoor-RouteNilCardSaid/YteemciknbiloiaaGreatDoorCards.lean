/-
  DERIVED. GIVEN WITH THE SEED: THE CARDS: each row of YteemciknbiloiaaGreatDoorRows.lean that lists a variable, with what it lists TIED to the program's text (the seventh form; the later family's looks); each row that meets fmt, with fmt's text TOLD by the authors' own Lean function (tested against real Go, not proved from fmt's source: count such statements apart). THE CARD IS WHAT COUNTS. Prove the row's statement (the work); the ties are given (YteemciknbiloiaaGreatDoorTie.lean); close each card by the builder's one call (the guide's Derived/Test/ToyasCard.lean, 'card_holds'). Laid BY PROGRAM, IN A SANDBOX (cutbox-door.mjs). By AI agents, Wed Nov 11 2026. No macro, syntax, notation, axiom, sorry.
-/
import Derived.Test.YteemciknbiloiaaGreatDoorRows
import GoSem.ClaimSeven
namespace Go.Proofs.YteemciknbiloiaaGreatDoor
namespace Rows

/-- THE TIED CARD OF 'tocsinlaw24.RouteNil'. -/
def routeNilCard : Claim7 := { stood := { row := routeNilRow, standIns := [], harness := (true, "305b8fe7cb66ac1e2987c904566d0e31cb447c48f509d9b15ef80bad56b53cac"), looks := true }, kinds := [], alts := [], laidByText := true, laidKinds := [.data, .data, .data, .data, .pinned], laidTests := true, laidLooks := .later }
def RouteNilCardSaid : Prop := Claim7.holds Tryz.pinned (.plain (OpenSpec.ofChange routeNilSpec)) routeNilCard

/-- THE SECOND FORM's CARD OF 'tocsinlaw24.RouteNil'. -/
def routeNilUptoCard : Claim7 := { stood := { row := routeNilUptoRow, standIns := [], harness := (true, "305b8fe7cb66ac1e2987c904566d0e31cb447c48f509d9b15ef80bad56b53cac"), looks := true }, kinds := [], alts := [], laidByText := true, laidKinds := [.data, .data, .data, .data, .pinned], laidTests := true, laidLooks := .later }
def RouteNilUptoCardSaid : Prop := Claim7.holds Tryz.pinned (.plain (OpenSpec.upto routeNilSpec)) routeNilUptoCard
end Rows
end Go.Proofs.YteemciknbiloiaaGreatDoor
