/-
  DERIVED. GIVEN WITH THE SEED: THE CARDS: each row of YtdjekmljjhehhaaGreatDoorRows.lean that lists a variable, with what it lists TIED to the program's text (the seventh form; the later family's looks); each row that meets fmt, with fmt's text TOLD by the authors' own Lean function (tested against real Go, not proved from fmt's source: count such statements apart). THE CARD IS WHAT COUNTS. Prove the row's statement (the work); the ties are given (YtdjekmljjhehhaaGreatDoorTie.lean); close each card by the builder's one call (the guide's Derived/Test/ToyasCard.lean, 'card_holds'). Laid BY PROGRAM, IN A SANDBOX (cutbox-door.mjs). By AI agents, Wed Nov 11 2026. No macro, syntax, notation, axiom, sorry.
-/
import Derived.Test.YtdjekmljjhehhaaGreatDoorRows
import GoSem.ClaimSeven
namespace Go.Proofs.YtdjekmljjhehhaaGreatDoor
namespace Rows

/-- THE TIED CARD OF 'louverlaw08.FlowtypeOpen'. -/
def flowtypeOpenCard : Claim7 := { stood := { row := flowtypeOpenRow, standIns := [], harness := (true, "169092241ec032c476971095829120fea632ade2506ba763ce467aed14a39e8c"), looks := true }, kinds := [], alts := [], laidByText := true, laidKinds := [.data, .data, .data, .sentinel, .sentinel], laidTests := true, laidLooks := .later }
def FlowtypeOpenCardSaid : Prop := Claim7.holds Tryz.pinned (.plain (OpenSpec.ofChange flowtypeOpenSpec)) flowtypeOpenCard

/-- THE TIED CARD OF 'louverlaw08.FlowtypeFewer'. -/
def flowtypeFewerCard : Claim7 := { stood := { row := flowtypeFewerRow, standIns := [], harness := (true, "169092241ec032c476971095829120fea632ade2506ba763ce467aed14a39e8c"), looks := true }, kinds := [], alts := [], laidByText := true, laidKinds := [.data, .data, .data, .sentinel, .sentinel], laidTests := true, laidLooks := .later }
def FlowtypeFewerCardSaid : Prop := Claim7.holds Tryz.pinned (.plain (OpenSpec.ofChange flowtypeFewerSpec)) flowtypeFewerCard

/-- THE TIED CARD OF 'louverlaw08.FlowtypeLevels'. -/
def flowtypeLevelsCard : Claim7 := { stood := { row := flowtypeLevelsRow, standIns := [], harness := (true, "169092241ec032c476971095829120fea632ade2506ba763ce467aed14a39e8c"), looks := true }, kinds := [], alts := [], laidByText := true, laidKinds := [.data, .data, .data, .sentinel, .sentinel], laidTests := true, laidLooks := .later }
def FlowtypeLevelsCardSaid : Prop := Claim7.holds Tryz.pinned (.plain (OpenSpec.ofChange flowtypeLevelsSpec)) flowtypeLevelsCard

/-- THE TIED CARD OF 'louverlaw08.FlowtypeOwn'. -/
def flowtypeOwnCard : Claim7 := { stood := { row := flowtypeOwnRow, standIns := [], harness := (true, "169092241ec032c476971095829120fea632ade2506ba763ce467aed14a39e8c"), looks := true }, kinds := [], alts := [], laidByText := true, laidKinds := [.data, .data, .data, .sentinel, .sentinel], laidTests := true, laidLooks := .later }
def FlowtypeOwnCardSaid : Prop := Claim7.holds Tryz.pinned (.plain (OpenSpec.ofChange flowtypeOwnSpec)) flowtypeOwnCard

/-- THE TIED CARD OF 'louverlaw09.SenseFuel'. -/
def senseFuelCard : Claim7 := { stood := { row := senseFuelRow, standIns := [], harness := (true, "169092241ec032c476971095829120fea632ade2506ba763ce467aed14a39e8c"), looks := true }, kinds := [], alts := [], laidByText := true, laidKinds := [.data, .data, .data, .sentinel, .sentinel], laidTests := true, laidLooks := .later }
def SenseFuelCardSaid : Prop := Claim7.holds Tryz.pinned (.plain (OpenSpec.ofChange senseFuelSpec)) senseFuelCard

/-- THE TIED CARD OF 'louverlaw09.SenseAgain'. -/
def senseAgainCard : Claim7 := { stood := { row := senseAgainRow, standIns := [], harness := (true, "169092241ec032c476971095829120fea632ade2506ba763ce467aed14a39e8c"), looks := true }, kinds := [], alts := [], laidByText := true, laidKinds := [.data, .data, .data, .sentinel, .sentinel], laidTests := true, laidLooks := .later }
def SenseAgainCardSaid : Prop := Claim7.holds Tryz.pinned (.plain (OpenSpec.ofChange senseAgainSpec)) senseAgainCard

/-- THE SECOND FORM's CARD OF 'louverlaw08.FlowtypeOpen'. -/
def flowtypeOpenUptoCard : Claim7 := { stood := { row := flowtypeOpenUptoRow, standIns := [], harness := (true, "169092241ec032c476971095829120fea632ade2506ba763ce467aed14a39e8c"), looks := true }, kinds := [], alts := [], laidByText := true, laidKinds := [.data, .data, .data, .sentinel, .sentinel], laidTests := true, laidLooks := .later }
def FlowtypeOpenUptoCardSaid : Prop := Claim7.holds Tryz.pinned (.plain (OpenSpec.upto flowtypeOpenSpec)) flowtypeOpenUptoCard

/-- THE SECOND FORM's CARD OF 'louverlaw08.FlowtypeFewer'. -/
def flowtypeFewerUptoCard : Claim7 := { stood := { row := flowtypeFewerUptoRow, standIns := [], harness := (true, "169092241ec032c476971095829120fea632ade2506ba763ce467aed14a39e8c"), looks := true }, kinds := [], alts := [], laidByText := true, laidKinds := [.data, .data, .data, .sentinel, .sentinel], laidTests := true, laidLooks := .later }
def FlowtypeFewerUptoCardSaid : Prop := Claim7.holds Tryz.pinned (.plain (OpenSpec.upto flowtypeFewerSpec)) flowtypeFewerUptoCard

/-- THE SECOND FORM's CARD OF 'louverlaw08.FlowtypeLevels'. -/
def flowtypeLevelsUptoCard : Claim7 := { stood := { row := flowtypeLevelsUptoRow, standIns := [], harness := (true, "169092241ec032c476971095829120fea632ade2506ba763ce467aed14a39e8c"), looks := true }, kinds := [], alts := [], laidByText := true, laidKinds := [.data, .data, .data, .sentinel, .sentinel], laidTests := true, laidLooks := .later }
def FlowtypeLevelsUptoCardSaid : Prop := Claim7.holds Tryz.pinned (.plain (OpenSpec.upto flowtypeLevelsSpec)) flowtypeLevelsUptoCard

/-- THE SECOND FORM's CARD OF 'louverlaw08.FlowtypeOwn'. -/
def flowtypeOwnUptoCard : Claim7 := { stood := { row := flowtypeOwnUptoRow, standIns := [], harness := (true, "169092241ec032c476971095829120fea632ade2506ba763ce467aed14a39e8c"), looks := true }, kinds := [], alts := [], laidByText := true, laidKinds := [.data, .data, .data, .sentinel, .sentinel], laidTests := true, laidLooks := .later }
def FlowtypeOwnUptoCardSaid : Prop := Claim7.holds Tryz.pinned (.plain (OpenSpec.upto flowtypeOwnSpec)) flowtypeOwnUptoCard

/-- THE SECOND FORM's CARD OF 'louverlaw09.SenseFuel'. -/
def senseFuelUptoCard : Claim7 := { stood := { row := senseFuelUptoRow, standIns := [], harness := (true, "169092241ec032c476971095829120fea632ade2506ba763ce467aed14a39e8c"), looks := true }, kinds := [], alts := [], laidByText := true, laidKinds := [.data, .data, .data, .sentinel, .sentinel], laidTests := true, laidLooks := .later }
def SenseFuelUptoCardSaid : Prop := Claim7.holds Tryz.pinned (.plain (OpenSpec.upto senseFuelSpec)) senseFuelUptoCard

/-- THE SECOND FORM's CARD OF 'louverlaw09.SenseAgain'. -/
def senseAgainUptoCard : Claim7 := { stood := { row := senseAgainUptoRow, standIns := [], harness := (true, "169092241ec032c476971095829120fea632ade2506ba763ce467aed14a39e8c"), looks := true }, kinds := [], alts := [], laidByText := true, laidKinds := [.data, .data, .data, .sentinel, .sentinel], laidTests := true, laidLooks := .later }
def SenseAgainUptoCardSaid : Prop := Claim7.holds Tryz.pinned (.plain (OpenSpec.upto senseAgainSpec)) senseAgainUptoCard
end Rows
end Go.Proofs.YtdjekmljjhehhaaGreatDoor
