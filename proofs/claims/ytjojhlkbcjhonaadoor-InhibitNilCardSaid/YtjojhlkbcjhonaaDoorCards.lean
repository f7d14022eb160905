/-
  DERIVED. GIVEN WITH THE SEED: THE CARDS: each row of YtjojhlkbcjhonaaDoorRows.lean that lists a variable, with what it lists TIED to the program's text (the seventh form; the later family's looks); each row that meets fmt, with fmt's text TOLD by the authors' own Lean function (tested against real Go, not proved from fmt's source: count such statements apart). THE CARD IS WHAT COUNTS. Prove the row's statement (the work); the ties are given (YtjojhlkbcjhonaaDoorTie.lean); close each card by the builder's one call (the guide's Derived/Test/ToyasCard.lean, 'card_holds'). Laid BY PROGRAM, IN A SANDBOX (cutbox-door.mjs). By AI agents, Wed Nov 11 2026. No macro, syntax, notation, axiom, sorry.
-/
import Derived.Test.YtjojhlkbcjhonaaDoorRows
import GoSem.ClaimSeven
namespace Go.Proofs.YtjojhlkbcjhonaaDoor
namespace Rows

/-- THE TIED CARD OF 'tocsinlaw05.RegexChoice'. -/
def regexChoiceCard : Claim7 := { stood := { row := regexChoiceRow, standIns := [], harness := (true, "2d011372f4f58e78ebbdc0fb359e7276fd680f4c084bdcca0ad78ecd36dfa5c3"), looks := true }, kinds := [], alts := [], laidByText := true, laidKinds := [.data, .pinned], laidTests := true, laidLooks := .later }
def RegexChoiceCardSaid : Prop := Claim7.holds Tryd.pinned (.plain (OpenSpec.ofChange regexChoiceSpec)) regexChoiceCard

/-- THE TIED CARD OF 'tocsinlaw05.RegexRows'. -/
def regexRowsCard : Claim7 := { stood := { row := regexRowsRow, standIns := [], harness := (true, "2d011372f4f58e78ebbdc0fb359e7276fd680f4c084bdcca0ad78ecd36dfa5c3"), looks := true }, kinds := [], alts := [], laidByText := true, laidKinds := [.data, .pinned], laidTests := true, laidLooks := .later }
def RegexRowsCardSaid : Prop := Claim7.holds Tryd.pinned (.plain (OpenSpec.ofChange regexRowsSpec)) regexRowsCard

/-- THE TIED CARD OF 'tocsinlaw05.RegexStars'. -/
def regexStarsCard : Claim7 := { stood := { row := regexStarsRow, standIns := [], harness := (true, "2d011372f4f58e78ebbdc0fb359e7276fd680f4c084bdcca0ad78ecd36dfa5c3"), looks := true }, kinds := [], alts := [], laidByText := true, laidKinds := [.data, .pinned], laidTests := true, laidLooks := .later }
def RegexStarsCardSaid : Prop := Claim7.holds Tryd.pinned (.plain (OpenSpec.ofChange regexStarsSpec)) regexStarsCard

/-- THE TIED CARD OF 'tocsinlaw05.RegexPrefix'. -/
def regexPrefixCard : Claim7 := { stood := { row := regexPrefixRow, standIns := [], harness := (true, "2d011372f4f58e78ebbdc0fb359e7276fd680f4c084bdcca0ad78ecd36dfa5c3"), looks := true }, kinds := [], alts := [], laidByText := true, laidKinds := [.data, .pinned], laidTests := true, laidLooks := .later }
def RegexPrefixCardSaid : Prop := Claim7.holds Tryd.pinned (.plain (OpenSpec.ofChange regexPrefixSpec)) regexPrefixCard

/-- THE TIED CARD OF 'tocsinlaw05.RegexNil'. -/
def regexNilCard : Claim7 := { stood := { row := regexNilRow, standIns := [], harness := (true, "2d011372f4f58e78ebbdc0fb359e7276fd680f4c084bdcca0ad78ecd36dfa5c3"), looks := true }, kinds := [], alts := [], laidByText := true, laidKinds := [.data, .pinned], laidTests := true, laidLooks := .later }
def RegexNilCardSaid : Prop := Claim7.holds Tryd.pinned (.plain (OpenSpec.ofChange regexNilSpec)) regexNilCard

/-- THE TIED CARD OF 'tocsinlaw05.RegexQuotes'. -/
def regexQuotesCard : Claim7 := { stood := { row := regexQuotesRow, standIns := [], harness := (true, "2d011372f4f58e78ebbdc0fb359e7276fd680f4c084bdcca0ad78ecd36dfa5c3"), looks := true }, kinds := [], alts := [], laidByText := true, laidKinds := [.data, .pinned], laidTests := true, laidLooks := .later }
def RegexQuotesCardSaid : Prop := Claim7.holds Tryd.pinned (.plain (OpenSpec.ofChange regexQuotesSpec)) regexQuotesCard

/-- THE TIED CARD OF 'tocsinlaw23.InhibitNil'. -/
def inhibitNilCard : Claim7 := { stood := { row := inhibitNilRow, standIns := [], harness := (true, "2d011372f4f58e78ebbdc0fb359e7276fd680f4c084bdcca0ad78ecd36dfa5c3"), looks := true }, kinds := [], alts := [], laidByText := true, laidKinds := [.data, .pinned], laidTests := true, laidLooks := .later }
def InhibitNilCardSaid : Prop := Claim7.holds Tryd.pinned (.plain (OpenSpec.ofChange inhibitNilSpec)) inhibitNilCard

/-- THE SECOND FORM's CARD OF 'tocsinlaw05.RegexChoice'. -/
def regexChoiceUptoCard : Claim7 := { stood := { row := regexChoiceUptoRow, standIns := [], harness := (true, "2d011372f4f58e78ebbdc0fb359e7276fd680f4c084bdcca0ad78ecd36dfa5c3"), looks := true }, kinds := [], alts := [], laidByText := true, laidKinds := [.data, .pinned], laidTests := true, laidLooks := .later }
def RegexChoiceUptoCardSaid : Prop := Claim7.holds Tryd.pinned (.plain (OpenSpec.upto regexChoiceSpec)) regexChoiceUptoCard

/-- THE SECOND FORM's CARD OF 'tocsinlaw05.RegexRows'. -/
def regexRowsUptoCard : Claim7 := { stood := { row := regexRowsUptoRow, standIns := [], harness := (true, "2d011372f4f58e78ebbdc0fb359e7276fd680f4c084bdcca0ad78ecd36dfa5c3"), looks := true }, kinds := [], alts := [], laidByText := true, laidKinds := [.data, .pinned], laidTests := true, laidLooks := .later }
def RegexRowsUptoCardSaid : Prop := Claim7.holds Tryd.pinned (.plain (OpenSpec.upto regexRowsSpec)) regexRowsUptoCard

/-- THE SECOND FORM's CARD OF 'tocsinlaw05.RegexStars'. -/
def regexStarsUptoCard : Claim7 := { stood := { row := regexStarsUptoRow, standIns := [], harness := (true, "2d011372f4f58e78ebbdc0fb359e7276fd680f4c084bdcca0ad78ecd36dfa5c3"), looks := true }, kinds := [], alts := [], laidByText := true, laidKinds := [.data, .pinned], laidTests := true, laidLooks := .later }
def RegexStarsUptoCardSaid : Prop := Claim7.holds Tryd.pinned (.plain (OpenSpec.upto regexStarsSpec)) regexStarsUptoCard

/-- THE SECOND FORM's CARD OF 'tocsinlaw05.RegexPrefix'. -/
def regexPrefixUptoCard : Claim7 := { stood := { row := regexPrefixUptoRow, standIns := [], harness := (true, "2d011372f4f58e78ebbdc0fb359e7276fd680f4c084bdcca0ad78ecd36dfa5c3"), looks := true }, kinds := [], alts := [], laidByText := true, laidKinds := [.data, .pinned], laidTests := true, laidLooks := .later }
def RegexPrefixUptoCardSaid : Prop := Claim7.holds Tryd.pinned (.plain (OpenSpec.upto regexPrefixSpec)) regexPrefixUptoCard

/-- THE SECOND FORM's CARD OF 'tocsinlaw05.RegexNil'. -/
def regexNilUptoCard : Claim7 := { stood := { row := regexNilUptoRow, standIns := [], harness := (true, "2d011372f4f58e78ebbdc0fb359e7276fd680f4c084bdcca0ad78ecd36dfa5c3"), looks := true }, kinds := [], alts := [], laidByText := true, laidKinds := [.data, .pinned], laidTests := true, laidLooks := .later }
def RegexNilUptoCardSaid : Prop := Claim7.holds Tryd.pinned (.plain (OpenSpec.upto regexNilSpec)) regexNilUptoCard

/-- THE SECOND FORM's CARD OF 'tocsinlaw05.RegexQuotes'. -/
def regexQuotesUptoCard : Claim7 := { stood := { row := regexQuotesUptoRow, standIns := [], harness := (true, "2d011372f4f58e78ebbdc0fb359e7276fd680f4c084bdcca0ad78ecd36dfa5c3"), looks := true }, kinds := [], alts := [], laidByText := true, laidKinds := [.data, .pinned], laidTests := true, laidLooks := .later }
def RegexQuotesUptoCardSaid : Prop := Claim7.holds Tryd.pinned (.plain (OpenSpec.upto regexQuotesSpec)) regexQuotesUptoCard

/-- THE SECOND FORM's CARD OF 'tocsinlaw23.InhibitNil'. -/
def inhibitNilUptoCard : Claim7 := { stood := { row := inhibitNilUptoRow, standIns := [], harness := (true, "2d011372f4f58e78ebbdc0fb359e7276fd680f4c084bdcca0ad78ecd36dfa5c3"), looks := true }, kinds := [], alts := [], laidByText := true, laidKinds := [.data, .pinned], laidTests := true, laidLooks := .later }
def InhibitNilUptoCardSaid : Prop := Claim7.holds Tryd.pinned (.plain (OpenSpec.upto inhibitNilSpec)) inhibitNilUptoCard
end Rows
end Go.Proofs.YtjojhlkbcjhonaaDoor
