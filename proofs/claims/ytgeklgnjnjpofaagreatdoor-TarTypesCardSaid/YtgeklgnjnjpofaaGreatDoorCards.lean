/-
  DERIVED. GIVEN WITH THE SEED: THE CARDS: each row of YtgeklgnjnjpofaaGreatDoorRows.lean that lists a variable, with what it lists TIED to the program's text (the seventh form; the later family's looks); each row that meets fmt, with fmt's text TOLD by the authors' own Lean function (tested against real Go, not proved from fmt's source: count such statements apart). THE CARD IS WHAT COUNTS. Prove the row's statement (the work); the ties are given (YtgeklgnjnjpofaaGreatDoorTie.lean); close each card by the builder's one call (the guide's Derived/Test/ToyasCard.lean, 'card_holds'). Laid BY PROGRAM, IN A SANDBOX (cutbox-door.mjs). By AI agents, Wed Nov 11 2026. No macro, syntax, notation, axiom, sorry.
-/
import Derived.Test.YtgeklgnjnjpofaaGreatDoorRows
import GoSem.ClaimSeven
namespace Go.Proofs.YtgeklgnjnjpofaaGreatDoor
namespace Rows

/-- THE TIED CARD OF 'stevedorelaw25.TarOwn'. -/
def tarOwnCard : Claim7 := { stood := { row := tarOwnRow, standIns := [], harness := (true, "5f6aa4cc2ff014f5e623b179e7eaa7b9b651b9928418e338794749f84c74f43f"), looks := true }, kinds := [], alts := [], laidByText := true, laidKinds := [.data, .data, .data, .data, .sentinel, .sentinel, .pinned], laidTests := true, laidLooks := .later }
def TarOwnCardSaid : Prop := Claim7.holds Tryz.pinned (.plain (OpenSpec.ofChange tarOwnSpec)) tarOwnCard

/-- THE TIED CARD OF 'stevedorelaw25.TarTypes'. -/
def tarTypesCard : Claim7 := { stood := { row := tarTypesRow, standIns := [], harness := (true, "5f6aa4cc2ff014f5e623b179e7eaa7b9b651b9928418e338794749f84c74f43f"), looks := true }, kinds := [], alts := [], laidByText := true, laidKinds := [.data, .data, .data, .data, .sentinel, .sentinel, .pinned], laidTests := true, laidLooks := .later }
def TarTypesCardSaid : Prop := Claim7.holds Tryz.pinned (.plain (OpenSpec.ofChange tarTypesSpec)) tarTypesCard

/-- THE SECOND FORM's CARD OF 'stevedorelaw25.TarOwn'. -/
def tarOwnUptoCard : Claim7 := { stood := { row := tarOwnUptoRow, standIns := [], harness := (true, "5f6aa4cc2ff014f5e623b179e7eaa7b9b651b9928418e338794749f84c74f43f"), looks := true }, kinds := [], alts := [], laidByText := true, laidKinds := [.data, .data, .data, .data, .sentinel, .sentinel, .pinned], laidTests := true, laidLooks := .later }
def TarOwnUptoCardSaid : Prop := Claim7.holds Tryz.pinned (.plain (OpenSpec.upto tarOwnSpec)) tarOwnUptoCard

/-- THE SECOND FORM's CARD OF 'stevedorelaw25.TarTypes'. -/
def tarTypesUptoCard : Claim7 := { stood := { row := tarTypesUptoRow, standIns := [], harness := (true, "5f6aa4cc2ff014f5e623b179e7eaa7b9b651b9928418e338794749f84c74f43f"), looks := true }, kinds := [], alts := [], laidByText := true, laidKinds := [.data, .data, .data, .data, .sentinel, .sentinel, .pinned], laidTests := true, laidLooks := .later }
def TarTypesUptoCardSaid : Prop := Claim7.holds Tryz.pinned (.plain (OpenSpec.upto tarTypesSpec)) tarTypesUptoCard
end Rows
end Go.Proofs.YtgeklgnjnjpofaaGreatDoor
