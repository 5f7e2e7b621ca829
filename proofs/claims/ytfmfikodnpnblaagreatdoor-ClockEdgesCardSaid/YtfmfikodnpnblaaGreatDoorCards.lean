/-
  DERIVED. GIVEN WITH THE SEED: THE CARDS: each row of YtfmfikodnpnblaaGreatDoorRows.lean that lists a variable, with what it lists TIED to the program's text (the seventh form; the later family's looks); each row that meets fmt, with fmt's text TOLD by the authors' own Lean function (tested against real Go, not proved from fmt's source: count such statements apart). THE CARD IS WHAT COUNTS. Prove the row's statement (the work); the ties are given (YtfmfikodnpnblaaGreatDoorTie.lean); close each card by the builder's one call (the guide's Derived/Test/ToyasCard.lean, 'card_holds'). Laid BY PROGRAM, IN A SANDBOX (cutbox-door.mjs). By AI agents, Wed Nov 11 2026. No macro, syntax, notation, axiom, sorry.
-/
import Derived.Test.YtfmfikodnpnblaaGreatDoorRows
import GoSem.ClaimSeven
namespace Go.Proofs.YtfmfikodnpnblaaGreatDoor
namespace Rows

/-- THE TIED CARD OF 'stevedorelaw4.ClockDates'. -/
def clockDatesCard : Claim7 := { stood := { row := clockDatesRow, standIns := [], harness := (true, "b8cc8be44a2a6f429f1a1e4a894115fbdadd0913058d662262c3d6250185bc35"), looks := true }, kinds := [], alts := [], laidByText := true, laidKinds := [.data, .data, .data, .data, .sentinel, .sentinel, .pinned], laidTests := true, laidLooks := .later }
def ClockDatesCardSaid : Prop := Claim7.holds Tryz.pinned (.plain (OpenSpec.ofChange clockDatesSpec)) clockDatesCard

/-- THE TIED CARD OF 'stevedorelaw4.ClockEdges'. -/
def clockEdgesCard : Claim7 := { stood := { row := clockEdgesRow, standIns := [], harness := (true, "b8cc8be44a2a6f429f1a1e4a894115fbdadd0913058d662262c3d6250185bc35"), looks := true }, kinds := [], alts := [], laidByText := true, laidKinds := [.data, .data, .data, .data, .sentinel, .sentinel, .pinned], laidTests := true, laidLooks := .later }
def ClockEdgesCardSaid : Prop := Claim7.holds Tryz.pinned (.plain (OpenSpec.ofChange clockEdgesSpec)) clockEdgesCard

/-- THE SECOND FORM's CARD OF 'stevedorelaw4.ClockDates'. -/
def clockDatesUptoCard : Claim7 := { stood := { row := clockDatesUptoRow, standIns := [], harness := (true, "b8cc8be44a2a6f429f1a1e4a894115fbdadd0913058d662262c3d6250185bc35"), looks := true }, kinds := [], alts := [], laidByText := true, laidKinds := [.data, .data, .data, .data, .sentinel, .sentinel, .pinned], laidTests := true, laidLooks := .later }
def ClockDatesUptoCardSaid : Prop := Claim7.holds Tryz.pinned (.plain (OpenSpec.upto clockDatesSpec)) clockDatesUptoCard

/-- THE SECOND FORM's CARD OF 'stevedorelaw4.ClockEdges'. -/
def clockEdgesUptoCard : Claim7 := { stood := { row := clockEdgesUptoRow, standIns := [], harness := (true, "b8cc8be44a2a6f429f1a1e4a894115fbdadd0913058d662262c3d6250185bc35"), looks := true }, kinds := [], alts := [], laidByText := true, laidKinds := [.data, .data, .data, .data, .sentinel, .sentinel, .pinned], laidTests := true, laidLooks := .later }
def ClockEdgesUptoCardSaid : Prop := Claim7.holds Tryz.pinned (.plain (OpenSpec.upto clockEdgesSpec)) clockEdgesUptoCard
end Rows
end Go.Proofs.YtfmfikodnpnblaaGreatDoor
