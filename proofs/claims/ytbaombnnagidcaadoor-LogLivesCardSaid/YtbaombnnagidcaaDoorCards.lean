/-
  DERIVED. GIVEN WITH THE SEED: THE CARDS: each row of YtbaombnnagidcaaDoorRows.lean that lists a variable, with what it lists TIED to the program's text (the seventh form; the later family's looks); each row that meets fmt, with fmt's text TOLD by the authors' own Lean function (tested against real Go, not proved from fmt's source: count such statements apart). THE CARD IS WHAT COUNTS. Prove the row's statement (the work); the ties are given (YtbaombnnagidcaaDoorTie.lean); close each card by the builder's one call (the guide's Derived/Test/ToyasCard.lean, 'card_holds'). Laid BY PROGRAM, IN A SANDBOX (cutbox-door.mjs). By AI agents, Wed Nov 11 2026. No macro, syntax, notation, axiom, sorry.
-/
import Derived.Test.YtbaombnnagidcaaDoorRows
import GoSem.ClaimSeven
namespace Go.Proofs.YtbaombnnagidcaaDoor
namespace Rows

/-- THE TIED CARD OF 'rostrumlaw01.WirePuts'. -/
def wirePutsCard : Claim7 := { stood := { row := wirePutsRow, standIns := [], harness := (true, "be918d433f8de4d3a9931df7c74dd81f858493e92df7eb96cab89368b6215d99"), looks := false }, kinds := [], alts := [], laidByText := true, laidKinds := [.data], laidTests := true, laidLooks := .later }
def WirePutsCardSaid : Prop := Claim7.holds Tryd.pinned (.plain (OpenSpec.ofChange wirePutsSpec)) wirePutsCard

/-- THE TIED CARD OF 'rostrumlaw01.WireTorn'. -/
def wireTornCard : Claim7 := { stood := { row := wireTornRow, standIns := [], harness := (true, "be918d433f8de4d3a9931df7c74dd81f858493e92df7eb96cab89368b6215d99"), looks := false }, kinds := [], alts := [], laidByText := true, laidKinds := [.data], laidTests := true, laidLooks := .later }
def WireTornCardSaid : Prop := Claim7.holds Tryd.pinned (.plain (OpenSpec.ofChange wireTornSpec)) wireTornCard

/-- THE TIED CARD OF 'rostrumlaw01.WireBack'. -/
def wireBackCard : Claim7 := { stood := { row := wireBackRow, standIns := [], harness := (true, "be918d433f8de4d3a9931df7c74dd81f858493e92df7eb96cab89368b6215d99"), looks := false }, kinds := [], alts := [], laidByText := true, laidKinds := [.data], laidTests := true, laidLooks := .later }
def WireBackCardSaid : Prop := Claim7.holds Tryd.pinned (.plain (OpenSpec.ofChange wireBackSpec)) wireBackCard

/-- THE TIED CARD OF 'rostrumlaw19.NetAsks'. -/
def netAsksCard : Claim7 := { stood := { row := netAsksRow, standIns := [], harness := (true, "be918d433f8de4d3a9931df7c74dd81f858493e92df7eb96cab89368b6215d99"), looks := false }, kinds := [], alts := [], laidByText := true, laidKinds := [.data], laidTests := true, laidLooks := .later }
def NetAsksCardSaid : Prop := Claim7.holds Tryd.pinned (.plain (OpenSpec.ofChange netAsksSpec)) netAsksCard

/-- THE TIED CARD OF 'rostrumlaw19.NetReplies'. -/
def netRepliesCard : Claim7 := { stood := { row := netRepliesRow, standIns := [], harness := (true, "be918d433f8de4d3a9931df7c74dd81f858493e92df7eb96cab89368b6215d99"), looks := false }, kinds := [], alts := [], laidByText := true, laidKinds := [.data], laidTests := true, laidLooks := .later }
def NetRepliesCardSaid : Prop := Claim7.holds Tryd.pinned (.plain (OpenSpec.ofChange netRepliesSpec)) netRepliesCard

/-- THE TIED CARD OF 'rostrumlaw19.NetBack'. -/
def netBackCard : Claim7 := { stood := { row := netBackRow, standIns := [], harness := (true, "be918d433f8de4d3a9931df7c74dd81f858493e92df7eb96cab89368b6215d99"), looks := false }, kinds := [], alts := [], laidByText := true, laidKinds := [.data], laidTests := true, laidLooks := .later }
def NetBackCardSaid : Prop := Claim7.holds Tryd.pinned (.plain (OpenSpec.ofChange netBackSpec)) netBackCard

/-- THE TIED CARD OF 'rostrumlaw03.LogRoom'. -/
def logRoomCard : Claim7 := { stood := { row := logRoomRow, standIns := [], harness := (true, "be918d433f8de4d3a9931df7c74dd81f858493e92df7eb96cab89368b6215d99"), looks := false }, kinds := [], alts := [], laidByText := true, laidKinds := [.data], laidTests := true, laidLooks := .later }
def LogRoomCardSaid : Prop := Claim7.holds Tryd.pinned (.plain (OpenSpec.ofChange logRoomSpec)) logRoomCard

/-- THE TIED CARD OF 'rostrumlaw03.LogNobody'. -/
def logNobodyCard : Claim7 := { stood := { row := logNobodyRow, standIns := [], harness := (true, "be918d433f8de4d3a9931df7c74dd81f858493e92df7eb96cab89368b6215d99"), looks := false }, kinds := [], alts := [], laidByText := true, laidKinds := [.data], laidTests := true, laidLooks := .later }
def LogNobodyCardSaid : Prop := Claim7.holds Tryd.pinned (.plain (OpenSpec.ofChange logNobodySpec)) logNobodyCard

/-- THE TIED CARD OF 'rostrumlaw03.LogAnew'. -/
def logAnewCard : Claim7 := { stood := { row := logAnewRow, standIns := [], harness := (true, "be918d433f8de4d3a9931df7c74dd81f858493e92df7eb96cab89368b6215d99"), looks := false }, kinds := [], alts := [], laidByText := true, laidKinds := [.data], laidTests := true, laidLooks := .later }
def LogAnewCardSaid : Prop := Claim7.holds Tryd.pinned (.plain (OpenSpec.ofChange logAnewSpec)) logAnewCard

/-- THE TIED CARD OF 'rostrumlaw03.LogLives'. -/
def logLivesCard : Claim7 := { stood := { row := logLivesRow, standIns := [], harness := (true, "be918d433f8de4d3a9931df7c74dd81f858493e92df7eb96cab89368b6215d99"), looks := false }, kinds := [], alts := [], laidByText := true, laidKinds := [.data], laidTests := true, laidLooks := .later }
def LogLivesCardSaid : Prop := Claim7.holds Tryd.pinned (.plain (OpenSpec.ofChange logLivesSpec)) logLivesCard

/-- THE SECOND FORM's CARD OF 'rostrumlaw01.WirePuts'. -/
def wirePutsUptoCard : Claim7 := { stood := { row := wirePutsUptoRow, standIns := [], harness := (true, "be918d433f8de4d3a9931df7c74dd81f858493e92df7eb96cab89368b6215d99"), looks := false }, kinds := [], alts := [], laidByText := true, laidKinds := [.data], laidTests := true, laidLooks := .later }
def WirePutsUptoCardSaid : Prop := Claim7.holds Tryd.pinned (.plain (OpenSpec.upto wirePutsSpec)) wirePutsUptoCard

/-- THE SECOND FORM's CARD OF 'rostrumlaw01.WireTorn'. -/
def wireTornUptoCard : Claim7 := { stood := { row := wireTornUptoRow, standIns := [], harness := (true, "be918d433f8de4d3a9931df7c74dd81f858493e92df7eb96cab89368b6215d99"), looks := false }, kinds := [], alts := [], laidByText := true, laidKinds := [.data], laidTests := true, laidLooks := .later }
def WireTornUptoCardSaid : Prop := Claim7.holds Tryd.pinned (.plain (OpenSpec.upto wireTornSpec)) wireTornUptoCard

/-- THE SECOND FORM's CARD OF 'rostrumlaw01.WireBack'. -/
def wireBackUptoCard : Claim7 := { stood := { row := wireBackUptoRow, standIns := [], harness := (true, "be918d433f8de4d3a9931df7c74dd81f858493e92df7eb96cab89368b6215d99"), looks := false }, kinds := [], alts := [], laidByText := true, laidKinds := [.data], laidTests := true, laidLooks := .later }
def WireBackUptoCardSaid : Prop := Claim7.holds Tryd.pinned (.plain (OpenSpec.upto wireBackSpec)) wireBackUptoCard

/-- THE SECOND FORM's CARD OF 'rostrumlaw19.NetAsks'. -/
def netAsksUptoCard : Claim7 := { stood := { row := netAsksUptoRow, standIns := [], harness := (true, "be918d433f8de4d3a9931df7c74dd81f858493e92df7eb96cab89368b6215d99"), looks := false }, kinds := [], alts := [], laidByText := true, laidKinds := [.data], laidTests := true, laidLooks := .later }
def NetAsksUptoCardSaid : Prop := Claim7.holds Tryd.pinned (.plain (OpenSpec.upto netAsksSpec)) netAsksUptoCard

/-- THE SECOND FORM's CARD OF 'rostrumlaw19.NetReplies'. -/
def netRepliesUptoCard : Claim7 := { stood := { row := netRepliesUptoRow, standIns := [], harness := (true, "be918d433f8de4d3a9931df7c74dd81f858493e92df7eb96cab89368b6215d99"), looks := false }, kinds := [], alts := [], laidByText := true, laidKinds := [.data], laidTests := true, laidLooks := .later }
def NetRepliesUptoCardSaid : Prop := Claim7.holds Tryd.pinned (.plain (OpenSpec.upto netRepliesSpec)) netRepliesUptoCard

/-- THE SECOND FORM's CARD OF 'rostrumlaw19.NetBack'. -/
def netBackUptoCard : Claim7 := { stood := { row := netBackUptoRow, standIns := [], harness := (true, "be918d433f8de4d3a9931df7c74dd81f858493e92df7eb96cab89368b6215d99"), looks := false }, kinds := [], alts := [], laidByText := true, laidKinds := [.data], laidTests := true, laidLooks := .later }
def NetBackUptoCardSaid : Prop := Claim7.holds Tryd.pinned (.plain (OpenSpec.upto netBackSpec)) netBackUptoCard

/-- THE SECOND FORM's CARD OF 'rostrumlaw03.LogRoom'. -/
def logRoomUptoCard : Claim7 := { stood := { row := logRoomUptoRow, standIns := [], harness := (true, "be918d433f8de4d3a9931df7c74dd81f858493e92df7eb96cab89368b6215d99"), looks := false }, kinds := [], alts := [], laidByText := true, laidKinds := [.data], laidTests := true, laidLooks := .later }
def LogRoomUptoCardSaid : Prop := Claim7.holds Tryd.pinned (.plain (OpenSpec.upto logRoomSpec)) logRoomUptoCard

/-- THE SECOND FORM's CARD OF 'rostrumlaw03.LogNobody'. -/
def logNobodyUptoCard : Claim7 := { stood := { row := logNobodyUptoRow, standIns := [], harness := (true, "be918d433f8de4d3a9931df7c74dd81f858493e92df7eb96cab89368b6215d99"), looks := false }, kinds := [], alts := [], laidByText := true, laidKinds := [.data], laidTests := true, laidLooks := .later }
def LogNobodyUptoCardSaid : Prop := Claim7.holds Tryd.pinned (.plain (OpenSpec.upto logNobodySpec)) logNobodyUptoCard

/-- THE SECOND FORM's CARD OF 'rostrumlaw03.LogAnew'. -/
def logAnewUptoCard : Claim7 := { stood := { row := logAnewUptoRow, standIns := [], harness := (true, "be918d433f8de4d3a9931df7c74dd81f858493e92df7eb96cab89368b6215d99"), looks := false }, kinds := [], alts := [], laidByText := true, laidKinds := [.data], laidTests := true, laidLooks := .later }
def LogAnewUptoCardSaid : Prop := Claim7.holds Tryd.pinned (.plain (OpenSpec.upto logAnewSpec)) logAnewUptoCard

/-- THE SECOND FORM's CARD OF 'rostrumlaw03.LogLives'. -/
def logLivesUptoCard : Claim7 := { stood := { row := logLivesUptoRow, standIns := [], harness := (true, "be918d433f8de4d3a9931df7c74dd81f858493e92df7eb96cab89368b6215d99"), looks := false }, kinds := [], alts := [], laidByText := true, laidKinds := [.data], laidTests := true, laidLooks := .later }
def LogLivesUptoCardSaid : Prop := Claim7.holds Tryd.pinned (.plain (OpenSpec.upto logLivesSpec)) logLivesUptoCard
end Rows
end Go.Proofs.YtbaombnnagidcaaDoor
