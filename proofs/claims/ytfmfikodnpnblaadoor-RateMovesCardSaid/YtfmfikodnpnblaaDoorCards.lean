/-
  DERIVED. GIVEN WITH THE SEED: THE CARDS: each row of YtfmfikodnpnblaaDoorRows.lean that lists a variable, with what it lists TIED to the program's text (the seventh form; the later family's looks); each row that meets fmt, with fmt's text TOLD by the authors' own Lean function (tested against real Go, not proved from fmt's source: count such statements apart). THE CARD IS WHAT COUNTS. Prove the row's statement (the work); the ties are given (YtfmfikodnpnblaaDoorTie.lean); close each card by the builder's one call (the guide's Derived/Test/ToyasCard.lean, 'card_holds'). Laid BY PROGRAM, IN A SANDBOX (cutbox-door.mjs). By AI agents, Wed Nov 11 2026. No macro, syntax, notation, axiom, sorry.
-/
import Derived.Test.YtfmfikodnpnblaaDoorRows
import GoSem.ClaimSeven
namespace Go.Proofs.YtfmfikodnpnblaaDoor
namespace Rows

/-- THE TIED CARD OF 'stevedorelaw36.RateRank'. -/
def rateRankCard : Claim7 := { stood := { row := rateRankRow, standIns := [], harness := (true, "a409efad104d368918c39f91ba683f6f371fed584bb41336c911559cb8e0195f"), looks := true }, kinds := [], alts := [], laidByText := true, laidKinds := [.data, .data, .data], laidTests := true, laidLooks := .later }
def RateRankCardSaid : Prop := Claim7.holds Tryd.pinned (.plain (OpenSpec.ofChange rateRankSpec)) rateRankCard

/-- THE TIED CARD OF 'stevedorelaw36.RateMoves'. -/
def rateMovesCard : Claim7 := { stood := { row := rateMovesRow, standIns := [], harness := (true, "a409efad104d368918c39f91ba683f6f371fed584bb41336c911559cb8e0195f"), looks := true }, kinds := [], alts := [], laidByText := true, laidKinds := [.data, .data, .data], laidTests := true, laidLooks := .later }
def RateMovesCardSaid : Prop := Claim7.holds Tryd.pinned (.plain (OpenSpec.ofChange rateMovesSpec)) rateMovesCard

/-- THE TIED CARD OF 'stevedorelaw36.RateEven'. -/
def rateEvenCard : Claim7 := { stood := { row := rateEvenRow, standIns := [], harness := (true, "a409efad104d368918c39f91ba683f6f371fed584bb41336c911559cb8e0195f"), looks := true }, kinds := [], alts := [], laidByText := true, laidKinds := [.data, .data, .data], laidTests := true, laidLooks := .later }
def RateEvenCardSaid : Prop := Claim7.holds Tryd.pinned (.plain (OpenSpec.ofChange rateEvenSpec)) rateEvenCard

/-- THE TIED CARD OF 'stevedorelaw36.RateEdges'. -/
def rateEdgesCard : Claim7 := { stood := { row := rateEdgesRow, standIns := [], harness := (true, "a409efad104d368918c39f91ba683f6f371fed584bb41336c911559cb8e0195f"), looks := true }, kinds := [], alts := [], laidByText := true, laidKinds := [.data, .data, .data], laidTests := true, laidLooks := .later }
def RateEdgesCardSaid : Prop := Claim7.holds Tryd.pinned (.plain (OpenSpec.ofChange rateEdgesSpec)) rateEdgesCard

/-- THE TIED CARD OF 'stevedorelaw36.RateOf'. -/
def rateOfCard : Claim7 := { stood := { row := rateOfRow, standIns := [], harness := (true, "a409efad104d368918c39f91ba683f6f371fed584bb41336c911559cb8e0195f"), looks := true }, kinds := [], alts := [], laidByText := true, laidKinds := [.data, .data, .data], laidTests := true, laidLooks := .later }
def RateOfCardSaid : Prop := Claim7.holds Tryd.pinned (.plain (OpenSpec.ofChange rateOfSpec)) rateOfCard

/-- THE TIED CARD OF 'stevedorelaw36.RateBack'. -/
def rateBackCard : Claim7 := { stood := { row := rateBackRow, standIns := [], harness := (true, "a409efad104d368918c39f91ba683f6f371fed584bb41336c911559cb8e0195f"), looks := true }, kinds := [], alts := [], laidByText := true, laidKinds := [.data, .data, .data, .sentinel, .sentinel], laidTests := true, laidLooks := .later }
def RateBackCardSaid : Prop := Claim7.holds Tryd.pinned (.plain (OpenSpec.ofChange rateBackSpec)) rateBackCard

/-- THE TIED CARD OF 'stevedorelaw4.ClockFine'. -/
def clockFineCard : Claim7 := { stood := { row := clockFineRow, standIns := [], harness := (true, "a409efad104d368918c39f91ba683f6f371fed584bb41336c911559cb8e0195f"), looks := true }, kinds := [], alts := [], laidByText := true, laidKinds := [.data, .data, .data, .data, .sentinel, .sentinel, .pinned], laidTests := true, laidLooks := .later }
def ClockFineCardSaid : Prop := Claim7.holds Tryd.pinned (.plain (OpenSpec.ofChange clockFineSpec)) clockFineCard

/-- THE TIED CARD OF 'stevedorelaw4.ClockOrder'. -/
def clockOrderCard : Claim7 := { stood := { row := clockOrderRow, standIns := [], harness := (true, "a409efad104d368918c39f91ba683f6f371fed584bb41336c911559cb8e0195f"), looks := true }, kinds := [], alts := [], laidByText := true, laidKinds := [.data, .data, .data, .data, .sentinel, .sentinel, .pinned], laidTests := true, laidLooks := .later }
def ClockOrderCardSaid : Prop := Claim7.holds Tryd.pinned (.plain (OpenSpec.ofChange clockOrderSpec)) clockOrderCard

/-- THE TIED CARD OF 'stevedorelaw4.ClockYears'. -/
def clockYearsCard : Claim7 := { stood := { row := clockYearsRow, standIns := [], harness := (true, "a409efad104d368918c39f91ba683f6f371fed584bb41336c911559cb8e0195f"), looks := true }, kinds := [], alts := [], laidByText := true, laidKinds := [.data, .data, .data, .data, .sentinel, .sentinel, .pinned], laidTests := true, laidLooks := .later }
def ClockYearsCardSaid : Prop := Claim7.holds Tryd.pinned (.plain (OpenSpec.ofChange clockYearsSpec)) clockYearsCard

/-- THE TIED CARD OF 'stevedorelaw4.ClockParses'. -/
def clockParsesCard : Claim7 := { stood := { row := clockParsesRow, standIns := [], harness := (true, "a409efad104d368918c39f91ba683f6f371fed584bb41336c911559cb8e0195f"), looks := true }, kinds := [], alts := [], laidByText := true, laidKinds := [.data, .data, .data, .data, .sentinel, .sentinel, .pinned], laidTests := true, laidLooks := .later }
def ClockParsesCardSaid : Prop := Claim7.holds Tryd.pinned (.plain (OpenSpec.ofChange clockParsesSpec)) clockParsesCard

/-- THE TIED CARD OF 'stevedorelaw4.ClockBack'. -/
def clockBackCard : Claim7 := { stood := { row := clockBackRow, standIns := [], harness := (true, "a409efad104d368918c39f91ba683f6f371fed584bb41336c911559cb8e0195f"), looks := true }, kinds := [], alts := [], laidByText := true, laidKinds := [.data, .data, .data, .data, .sentinel, .sentinel, .pinned], laidTests := true, laidLooks := .later }
def ClockBackCardSaid : Prop := Claim7.holds Tryd.pinned (.plain (OpenSpec.ofChange clockBackSpec)) clockBackCard

/-- THE TIED CARD OF 'stevedorelaw4.ClockKeeps'. -/
def clockKeepsCard : Claim7 := { stood := { row := clockKeepsRow, standIns := [], harness := (true, "a409efad104d368918c39f91ba683f6f371fed584bb41336c911559cb8e0195f"), looks := true }, kinds := [], alts := [], laidByText := true, laidKinds := [.data, .data, .data, .data, .sentinel, .sentinel, .pinned], laidTests := true, laidLooks := .later }
def ClockKeepsCardSaid : Prop := Claim7.holds Tryd.pinned (.plain (OpenSpec.ofChange clockKeepsSpec)) clockKeepsCard

/-- THE SECOND FORM's CARD OF 'stevedorelaw36.RateRank'. -/
def rateRankUptoCard : Claim7 := { stood := { row := rateRankUptoRow, standIns := [], harness := (true, "a409efad104d368918c39f91ba683f6f371fed584bb41336c911559cb8e0195f"), looks := true }, kinds := [], alts := [], laidByText := true, laidKinds := [.data, .data, .data], laidTests := true, laidLooks := .later }
def RateRankUptoCardSaid : Prop := Claim7.holds Tryd.pinned (.plain (OpenSpec.upto rateRankSpec)) rateRankUptoCard

/-- THE SECOND FORM's CARD OF 'stevedorelaw36.RateMoves'. -/
def rateMovesUptoCard : Claim7 := { stood := { row := rateMovesUptoRow, standIns := [], harness := (true, "a409efad104d368918c39f91ba683f6f371fed584bb41336c911559cb8e0195f"), looks := true }, kinds := [], alts := [], laidByText := true, laidKinds := [.data, .data, .data], laidTests := true, laidLooks := .later }
def RateMovesUptoCardSaid : Prop := Claim7.holds Tryd.pinned (.plain (OpenSpec.upto rateMovesSpec)) rateMovesUptoCard

/-- THE SECOND FORM's CARD OF 'stevedorelaw36.RateEven'. -/
def rateEvenUptoCard : Claim7 := { stood := { row := rateEvenUptoRow, standIns := [], harness := (true, "a409efad104d368918c39f91ba683f6f371fed584bb41336c911559cb8e0195f"), looks := true }, kinds := [], alts := [], laidByText := true, laidKinds := [.data, .data, .data], laidTests := true, laidLooks := .later }
def RateEvenUptoCardSaid : Prop := Claim7.holds Tryd.pinned (.plain (OpenSpec.upto rateEvenSpec)) rateEvenUptoCard

/-- THE SECOND FORM's CARD OF 'stevedorelaw36.RateEdges'. -/
def rateEdgesUptoCard : Claim7 := { stood := { row := rateEdgesUptoRow, standIns := [], harness := (true, "a409efad104d368918c39f91ba683f6f371fed584bb41336c911559cb8e0195f"), looks := true }, kinds := [], alts := [], laidByText := true, laidKinds := [.data, .data, .data], laidTests := true, laidLooks := .later }
def RateEdgesUptoCardSaid : Prop := Claim7.holds Tryd.pinned (.plain (OpenSpec.upto rateEdgesSpec)) rateEdgesUptoCard

/-- THE SECOND FORM's CARD OF 'stevedorelaw36.RateOf'. -/
def rateOfUptoCard : Claim7 := { stood := { row := rateOfUptoRow, standIns := [], harness := (true, "a409efad104d368918c39f91ba683f6f371fed584bb41336c911559cb8e0195f"), looks := true }, kinds := [], alts := [], laidByText := true, laidKinds := [.data, .data, .data], laidTests := true, laidLooks := .later }
def RateOfUptoCardSaid : Prop := Claim7.holds Tryd.pinned (.plain (OpenSpec.upto rateOfSpec)) rateOfUptoCard

/-- THE SECOND FORM's CARD OF 'stevedorelaw36.RateBack'. -/
def rateBackUptoCard : Claim7 := { stood := { row := rateBackUptoRow, standIns := [], harness := (true, "a409efad104d368918c39f91ba683f6f371fed584bb41336c911559cb8e0195f"), looks := true }, kinds := [], alts := [], laidByText := true, laidKinds := [.data, .data, .data, .sentinel, .sentinel], laidTests := true, laidLooks := .later }
def RateBackUptoCardSaid : Prop := Claim7.holds Tryd.pinned (.plain (OpenSpec.upto rateBackSpec)) rateBackUptoCard

/-- THE SECOND FORM's CARD OF 'stevedorelaw4.ClockFine'. -/
def clockFineUptoCard : Claim7 := { stood := { row := clockFineUptoRow, standIns := [], harness := (true, "a409efad104d368918c39f91ba683f6f371fed584bb41336c911559cb8e0195f"), looks := true }, kinds := [], alts := [], laidByText := true, laidKinds := [.data, .data, .data, .data, .sentinel, .sentinel, .pinned], laidTests := true, laidLooks := .later }
def ClockFineUptoCardSaid : Prop := Claim7.holds Tryd.pinned (.plain (OpenSpec.upto clockFineSpec)) clockFineUptoCard

/-- THE SECOND FORM's CARD OF 'stevedorelaw4.ClockOrder'. -/
def clockOrderUptoCard : Claim7 := { stood := { row := clockOrderUptoRow, standIns := [], harness := (true, "a409efad104d368918c39f91ba683f6f371fed584bb41336c911559cb8e0195f"), looks := true }, kinds := [], alts := [], laidByText := true, laidKinds := [.data, .data, .data, .data, .sentinel, .sentinel, .pinned], laidTests := true, laidLooks := .later }
def ClockOrderUptoCardSaid : Prop := Claim7.holds Tryd.pinned (.plain (OpenSpec.upto clockOrderSpec)) clockOrderUptoCard

/-- THE SECOND FORM's CARD OF 'stevedorelaw4.ClockYears'. -/
def clockYearsUptoCard : Claim7 := { stood := { row := clockYearsUptoRow, standIns := [], harness := (true, "a409efad104d368918c39f91ba683f6f371fed584bb41336c911559cb8e0195f"), looks := true }, kinds := [], alts := [], laidByText := true, laidKinds := [.data, .data, .data, .data, .sentinel, .sentinel, .pinned], laidTests := true, laidLooks := .later }
def ClockYearsUptoCardSaid : Prop := Claim7.holds Tryd.pinned (.plain (OpenSpec.upto clockYearsSpec)) clockYearsUptoCard

/-- THE SECOND FORM's CARD OF 'stevedorelaw4.ClockParses'. -/
def clockParsesUptoCard : Claim7 := { stood := { row := clockParsesUptoRow, standIns := [], harness := (true, "a409efad104d368918c39f91ba683f6f371fed584bb41336c911559cb8e0195f"), looks := true }, kinds := [], alts := [], laidByText := true, laidKinds := [.data, .data, .data, .data, .sentinel, .sentinel, .pinned], laidTests := true, laidLooks := .later }
def ClockParsesUptoCardSaid : Prop := Claim7.holds Tryd.pinned (.plain (OpenSpec.upto clockParsesSpec)) clockParsesUptoCard

/-- THE SECOND FORM's CARD OF 'stevedorelaw4.ClockBack'. -/
def clockBackUptoCard : Claim7 := { stood := { row := clockBackUptoRow, standIns := [], harness := (true, "a409efad104d368918c39f91ba683f6f371fed584bb41336c911559cb8e0195f"), looks := true }, kinds := [], alts := [], laidByText := true, laidKinds := [.data, .data, .data, .data, .sentinel, .sentinel, .pinned], laidTests := true, laidLooks := .later }
def ClockBackUptoCardSaid : Prop := Claim7.holds Tryd.pinned (.plain (OpenSpec.upto clockBackSpec)) clockBackUptoCard

/-- THE SECOND FORM's CARD OF 'stevedorelaw4.ClockKeeps'. -/
def clockKeepsUptoCard : Claim7 := { stood := { row := clockKeepsUptoRow, standIns := [], harness := (true, "a409efad104d368918c39f91ba683f6f371fed584bb41336c911559cb8e0195f"), looks := true }, kinds := [], alts := [], laidByText := true, laidKinds := [.data, .data, .data, .data, .sentinel, .sentinel, .pinned], laidTests := true, laidLooks := .later }
def ClockKeepsUptoCardSaid : Prop := Claim7.holds Tryd.pinned (.plain (OpenSpec.upto clockKeepsSpec)) clockKeepsUptoCard
end Rows
end Go.Proofs.YtfmfikodnpnblaaDoor
