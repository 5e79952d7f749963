/-
  DERIVED. GIVEN WITH THE SEED: THE CARDS: each row of YtjjchodcoeciaaaDoorRows.lean that lists a variable, with what it lists TIED to the program's text (the seventh form; the later family's looks); each row that meets fmt, with fmt's text TOLD by the authors' own Lean function (tested against real Go, not proved from fmt's source: count such statements apart). THE CARD IS WHAT COUNTS. Prove the row's statement (the work); the ties are given (YtjjchodcoeciaaaDoorTie.lean); close each card by the builder's one call (the guide's Derived/Test/ToyasCard.lean, 'card_holds'). Laid BY PROGRAM, IN A SANDBOX (cutbox-door.mjs). By AI agents, Wed Nov 11 2026. No macro, syntax, notation, axiom, sorry.
-/
import Derived.Test.YtjjchodcoeciaaaDoorRows
import GoSem.ClaimSeven
namespace Go.Proofs.YtjjchodcoeciaaaDoor
namespace Rows

/-- THE TIED CARD OF 'caissalaw01.SquareSizes'. -/
def squareSizesCard : Claim7 := { stood := { row := squareSizesRow, standIns := [], harness := (true, "a3108448f9d8201103340598702d6358d4640545bbb9bff1420cd89f43f5f953"), looks := false }, kinds := [], alts := [], laidByText := true, laidKinds := [.data], laidTests := true, laidLooks := .later }
def SquareSizesCardSaid : Prop := Claim7.holds Tryd.pinned (.plain (OpenSpec.ofChange squareSizesSpec)) squareSizesCard

/-- THE TIED CARD OF 'caissalaw01.SquarePlaces'. -/
def squarePlacesCard : Claim7 := { stood := { row := squarePlacesRow, standIns := [], harness := (true, "a3108448f9d8201103340598702d6358d4640545bbb9bff1420cd89f43f5f953"), looks := false }, kinds := [], alts := [], laidByText := true, laidKinds := [.data], laidTests := true, laidLooks := .later }
def SquarePlacesCardSaid : Prop := Claim7.holds Tryd.pinned (.plain (OpenSpec.ofChange squarePlacesSpec)) squarePlacesCard

/-- THE TIED CARD OF 'caissalaw01.SquareParses'. -/
def squareParsesCard : Claim7 := { stood := { row := squareParsesRow, standIns := [], harness := (true, "a3108448f9d8201103340598702d6358d4640545bbb9bff1420cd89f43f5f953"), looks := false }, kinds := [], alts := [], laidByText := true, laidKinds := [.data], laidTests := true, laidLooks := .later }
def SquareParsesCardSaid : Prop := Claim7.holds Tryd.pinned (.plain (OpenSpec.ofChange squareParsesSpec)) squareParsesCard

/-- THE TIED CARD OF 'caissalaw01.SquareDistances'. -/
def squareDistancesCard : Claim7 := { stood := { row := squareDistancesRow, standIns := [], harness := (true, "a3108448f9d8201103340598702d6358d4640545bbb9bff1420cd89f43f5f953"), looks := false }, kinds := [], alts := [], laidByText := true, laidKinds := [.data], laidTests := true, laidLooks := .later }
def SquareDistancesCardSaid : Prop := Claim7.holds Tryd.pinned (.plain (OpenSpec.ofChange squareDistancesSpec)) squareDistancesCard

/-- THE TIED CARD OF 'caissalaw01.SquareShifts'. -/
def squareShiftsCard : Claim7 := { stood := { row := squareShiftsRow, standIns := [], harness := (true, "a3108448f9d8201103340598702d6358d4640545bbb9bff1420cd89f43f5f953"), looks := false }, kinds := [], alts := [], laidByText := true, laidKinds := [.data], laidTests := true, laidLooks := .later }
def SquareShiftsCardSaid : Prop := Claim7.holds Tryd.pinned (.plain (OpenSpec.ofChange squareShiftsSpec)) squareShiftsCard

/-- THE TIED CARD OF 'caissalaw01.SquareHolds'. -/
def squareHoldsCard : Claim7 := { stood := { row := squareHoldsRow, standIns := [], harness := (true, "a3108448f9d8201103340598702d6358d4640545bbb9bff1420cd89f43f5f953"), looks := false }, kinds := [], alts := [], laidByText := true, laidKinds := [.data], laidTests := true, laidLooks := .later }
def SquareHoldsCardSaid : Prop := Claim7.holds Tryd.pinned (.plain (OpenSpec.ofChange squareHoldsSpec)) squareHoldsCard

/-- THE TIED CARD OF 'caissalaw01.SquareSets'. -/
def squareSetsCard : Claim7 := { stood := { row := squareSetsRow, standIns := [], harness := (true, "a3108448f9d8201103340598702d6358d4640545bbb9bff1420cd89f43f5f953"), looks := false }, kinds := [], alts := [], laidByText := true, laidKinds := [.data], laidTests := true, laidLooks := .later }
def SquareSetsCardSaid : Prop := Claim7.holds Tryd.pinned (.plain (OpenSpec.ofChange squareSetsSpec)) squareSetsCard

/-- THE SECOND FORM's CARD OF 'caissalaw01.SquareSizes'. -/
def squareSizesUptoCard : Claim7 := { stood := { row := squareSizesUptoRow, standIns := [], harness := (true, "a3108448f9d8201103340598702d6358d4640545bbb9bff1420cd89f43f5f953"), looks := false }, kinds := [], alts := [], laidByText := true, laidKinds := [.data], laidTests := true, laidLooks := .later }
def SquareSizesUptoCardSaid : Prop := Claim7.holds Tryd.pinned (.plain (OpenSpec.upto squareSizesSpec)) squareSizesUptoCard

/-- THE SECOND FORM's CARD OF 'caissalaw01.SquarePlaces'. -/
def squarePlacesUptoCard : Claim7 := { stood := { row := squarePlacesUptoRow, standIns := [], harness := (true, "a3108448f9d8201103340598702d6358d4640545bbb9bff1420cd89f43f5f953"), looks := false }, kinds := [], alts := [], laidByText := true, laidKinds := [.data], laidTests := true, laidLooks := .later }
def SquarePlacesUptoCardSaid : Prop := Claim7.holds Tryd.pinned (.plain (OpenSpec.upto squarePlacesSpec)) squarePlacesUptoCard

/-- THE SECOND FORM's CARD OF 'caissalaw01.SquareParses'. -/
def squareParsesUptoCard : Claim7 := { stood := { row := squareParsesUptoRow, standIns := [], harness := (true, "a3108448f9d8201103340598702d6358d4640545bbb9bff1420cd89f43f5f953"), looks := false }, kinds := [], alts := [], laidByText := true, laidKinds := [.data], laidTests := true, laidLooks := .later }
def SquareParsesUptoCardSaid : Prop := Claim7.holds Tryd.pinned (.plain (OpenSpec.upto squareParsesSpec)) squareParsesUptoCard

/-- THE SECOND FORM's CARD OF 'caissalaw01.SquareDistances'. -/
def squareDistancesUptoCard : Claim7 := { stood := { row := squareDistancesUptoRow, standIns := [], harness := (true, "a3108448f9d8201103340598702d6358d4640545bbb9bff1420cd89f43f5f953"), looks := false }, kinds := [], alts := [], laidByText := true, laidKinds := [.data], laidTests := true, laidLooks := .later }
def SquareDistancesUptoCardSaid : Prop := Claim7.holds Tryd.pinned (.plain (OpenSpec.upto squareDistancesSpec)) squareDistancesUptoCard

/-- THE SECOND FORM's CARD OF 'caissalaw01.SquareShifts'. -/
def squareShiftsUptoCard : Claim7 := { stood := { row := squareShiftsUptoRow, standIns := [], harness := (true, "a3108448f9d8201103340598702d6358d4640545bbb9bff1420cd89f43f5f953"), looks := false }, kinds := [], alts := [], laidByText := true, laidKinds := [.data], laidTests := true, laidLooks := .later }
def SquareShiftsUptoCardSaid : Prop := Claim7.holds Tryd.pinned (.plain (OpenSpec.upto squareShiftsSpec)) squareShiftsUptoCard

/-- THE SECOND FORM's CARD OF 'caissalaw01.SquareHolds'. -/
def squareHoldsUptoCard : Claim7 := { stood := { row := squareHoldsUptoRow, standIns := [], harness := (true, "a3108448f9d8201103340598702d6358d4640545bbb9bff1420cd89f43f5f953"), looks := false }, kinds := [], alts := [], laidByText := true, laidKinds := [.data], laidTests := true, laidLooks := .later }
def SquareHoldsUptoCardSaid : Prop := Claim7.holds Tryd.pinned (.plain (OpenSpec.upto squareHoldsSpec)) squareHoldsUptoCard

/-- THE SECOND FORM's CARD OF 'caissalaw01.SquareSets'. -/
def squareSetsUptoCard : Claim7 := { stood := { row := squareSetsUptoRow, standIns := [], harness := (true, "a3108448f9d8201103340598702d6358d4640545bbb9bff1420cd89f43f5f953"), looks := false }, kinds := [], alts := [], laidByText := true, laidKinds := [.data], laidTests := true, laidLooks := .later }
def SquareSetsUptoCardSaid : Prop := Claim7.holds Tryd.pinned (.plain (OpenSpec.upto squareSetsSpec)) squareSetsUptoCard
end Rows
end Go.Proofs.YtjjchodcoeciaaaDoor
