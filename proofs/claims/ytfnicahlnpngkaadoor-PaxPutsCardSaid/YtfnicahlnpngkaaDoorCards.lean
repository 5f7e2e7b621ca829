/-
  DERIVED. GIVEN WITH THE SEED: THE CARDS: each row of YtfnicahlnpngkaaDoorRows.lean that lists a variable, with what it lists TIED to the program's text (the seventh form; the later family's looks); each row that meets fmt, with fmt's text TOLD by the authors' own Lean function (tested against real Go, not proved from fmt's source: count such statements apart). THE CARD IS WHAT COUNTS. Prove the row's statement (the work); the ties are given (YtfnicahlnpngkaaDoorTie.lean); close each card by the builder's one call (the guide's Derived/Test/ToyasCard.lean, 'card_holds'). Laid BY PROGRAM, IN A SANDBOX (cutbox-door.mjs). By AI agents, Wed Nov 11 2026. No macro, syntax, notation, axiom, sorry.
-/
import Derived.Test.YtfnicahlnpngkaaDoorRows
import GoSem.ClaimSeven
namespace Go.Proofs.YtfnicahlnpngkaaDoor
namespace Rows

/-- THE TIED CARD OF 'stevedorelaw24.PaxReads'. -/
def paxReadsCard : Claim7 := { stood := { row := paxReadsRow, standIns := [], harness := (true, "43a2c1b1d512ec7c948caab65be41f350e4b1d2a0e7969f70b249badca230deb"), looks := false }, kinds := [], alts := [], laidByText := true, laidKinds := [.data, .data, .data], laidTests := true, laidLooks := .later }
def PaxReadsCardSaid : Prop := Claim7.holds Tryd.pinned (.plain (OpenSpec.ofChange paxReadsSpec)) paxReadsCard

/-- THE TIED CARD OF 'stevedorelaw24.PaxBack'. -/
def paxBackCard : Claim7 := { stood := { row := paxBackRow, standIns := [], harness := (true, "43a2c1b1d512ec7c948caab65be41f350e4b1d2a0e7969f70b249badca230deb"), looks := false }, kinds := [], alts := [], laidByText := true, laidKinds := [.data, .data, .data], laidTests := true, laidLooks := .later }
def PaxBackCardSaid : Prop := Claim7.holds Tryd.pinned (.plain (OpenSpec.ofChange paxBackSpec)) paxBackCard

/-- THE TIED CARD OF 'stevedorelaw24.PaxLens'. -/
def paxLensCard : Claim7 := { stood := { row := paxLensRow, standIns := [], harness := (true, "43a2c1b1d512ec7c948caab65be41f350e4b1d2a0e7969f70b249badca230deb"), looks := false }, kinds := [], alts := [], laidByText := true, laidKinds := [.data, .data, .data], laidTests := true, laidLooks := .later }
def PaxLensCardSaid : Prop := Claim7.holds Tryd.pinned (.plain (OpenSpec.ofChange paxLensSpec)) paxLensCard

/-- THE TIED CARD OF 'stevedorelaw24.PaxPuts'. -/
def paxPutsCard : Claim7 := { stood := { row := paxPutsRow, standIns := [], harness := (true, "43a2c1b1d512ec7c948caab65be41f350e4b1d2a0e7969f70b249badca230deb"), looks := false }, kinds := [], alts := [], laidByText := true, laidKinds := [.data, .data, .data], laidTests := true, laidLooks := .later }
def PaxPutsCardSaid : Prop := Claim7.holds Tryd.pinned (.plain (OpenSpec.ofChange paxPutsSpec)) paxPutsCard

/-- THE TIED CARD OF 'stevedorelaw24.PaxMerges'. -/
def paxMergesCard : Claim7 := { stood := { row := paxMergesRow, standIns := [], harness := (true, "43a2c1b1d512ec7c948caab65be41f350e4b1d2a0e7969f70b249badca230deb"), looks := false }, kinds := [], alts := [], laidByText := true, laidKinds := [.data, .data, .data], laidTests := true, laidLooks := .later }
def PaxMergesCardSaid : Prop := Claim7.holds Tryd.pinned (.plain (OpenSpec.ofChange paxMergesSpec)) paxMergesCard

/-- THE SECOND FORM's CARD OF 'stevedorelaw24.PaxReads'. -/
def paxReadsUptoCard : Claim7 := { stood := { row := paxReadsUptoRow, standIns := [], harness := (true, "43a2c1b1d512ec7c948caab65be41f350e4b1d2a0e7969f70b249badca230deb"), looks := false }, kinds := [], alts := [], laidByText := true, laidKinds := [.data, .data, .data], laidTests := true, laidLooks := .later }
def PaxReadsUptoCardSaid : Prop := Claim7.holds Tryd.pinned (.plain (OpenSpec.upto paxReadsSpec)) paxReadsUptoCard

/-- THE SECOND FORM's CARD OF 'stevedorelaw24.PaxBack'. -/
def paxBackUptoCard : Claim7 := { stood := { row := paxBackUptoRow, standIns := [], harness := (true, "43a2c1b1d512ec7c948caab65be41f350e4b1d2a0e7969f70b249badca230deb"), looks := false }, kinds := [], alts := [], laidByText := true, laidKinds := [.data, .data, .data], laidTests := true, laidLooks := .later }
def PaxBackUptoCardSaid : Prop := Claim7.holds Tryd.pinned (.plain (OpenSpec.upto paxBackSpec)) paxBackUptoCard

/-- THE SECOND FORM's CARD OF 'stevedorelaw24.PaxLens'. -/
def paxLensUptoCard : Claim7 := { stood := { row := paxLensUptoRow, standIns := [], harness := (true, "43a2c1b1d512ec7c948caab65be41f350e4b1d2a0e7969f70b249badca230deb"), looks := false }, kinds := [], alts := [], laidByText := true, laidKinds := [.data, .data, .data], laidTests := true, laidLooks := .later }
def PaxLensUptoCardSaid : Prop := Claim7.holds Tryd.pinned (.plain (OpenSpec.upto paxLensSpec)) paxLensUptoCard

/-- THE SECOND FORM's CARD OF 'stevedorelaw24.PaxPuts'. -/
def paxPutsUptoCard : Claim7 := { stood := { row := paxPutsUptoRow, standIns := [], harness := (true, "43a2c1b1d512ec7c948caab65be41f350e4b1d2a0e7969f70b249badca230deb"), looks := false }, kinds := [], alts := [], laidByText := true, laidKinds := [.data, .data, .data], laidTests := true, laidLooks := .later }
def PaxPutsUptoCardSaid : Prop := Claim7.holds Tryd.pinned (.plain (OpenSpec.upto paxPutsSpec)) paxPutsUptoCard

/-- THE SECOND FORM's CARD OF 'stevedorelaw24.PaxMerges'. -/
def paxMergesUptoCard : Claim7 := { stood := { row := paxMergesUptoRow, standIns := [], harness := (true, "43a2c1b1d512ec7c948caab65be41f350e4b1d2a0e7969f70b249badca230deb"), looks := false }, kinds := [], alts := [], laidByText := true, laidKinds := [.data, .data, .data], laidTests := true, laidLooks := .later }
def PaxMergesUptoCardSaid : Prop := Claim7.holds Tryd.pinned (.plain (OpenSpec.upto paxMergesSpec)) paxMergesUptoCard
end Rows
end Go.Proofs.YtfnicahlnpngkaaDoor
