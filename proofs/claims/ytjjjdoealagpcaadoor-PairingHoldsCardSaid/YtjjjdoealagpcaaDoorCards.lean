/-
  DERIVED. GIVEN WITH THE SEED: THE CARDS: each row of YtjjjdoealagpcaaDoorRows.lean that lists a variable, with what it lists TIED to the program's text (the seventh form; the later family's looks); each row that meets fmt, with fmt's text TOLD by the authors' own Lean function (tested against real Go, not proved from fmt's source: count such statements apart). THE CARD IS WHAT COUNTS. Prove the row's statement (the work); the ties are given (YtjjjdoealagpcaaDoorTie.lean); close each card by the builder's one call (the guide's Derived/Test/ToyasCard.lean, 'card_holds'). Laid BY PROGRAM, IN A SANDBOX (cutbox-door.mjs). By AI agents, Wed Nov 11 2026. No macro, syntax, notation, axiom, sorry.
-/
import Derived.Test.YtjjjdoealagpcaaDoorRows
import GoSem.ClaimSeven
namespace Go.Proofs.YtjjjdoealagpcaaDoor
namespace Rows

/-- THE TIED CARD OF 'caissalaw43.PairingValid'. -/
def pairingValidCard : Claim7 := { stood := { row := pairingValidRow, standIns := [], harness := (true, "18bcd12e683394fc006070a9045f140f88091a0e3a00f3502442180ebefbff35"), looks := false }, kinds := [], alts := [], laidByText := true, laidKinds := [.data, .data], laidTests := true, laidLooks := .later }
def PairingValidCardSaid : Prop := Claim7.holds Tryd.pinned (.plain (OpenSpec.ofChange pairingValidSpec)) pairingValidCard

/-- THE TIED CARD OF 'caissalaw43.PairingPairs'. -/
def pairingPairsCard : Claim7 := { stood := { row := pairingPairsRow, standIns := [], harness := (true, "18bcd12e683394fc006070a9045f140f88091a0e3a00f3502442180ebefbff35"), looks := false }, kinds := [], alts := [], laidByText := true, laidKinds := [.data, .data], laidTests := true, laidLooks := .later }
def PairingPairsCardSaid : Prop := Claim7.holds Tryd.pinned (.plain (OpenSpec.ofChange pairingPairsSpec)) pairingPairsCard

/-- THE TIED CARD OF 'caissalaw43.PairingCosts'. -/
def pairingCostsCard : Claim7 := { stood := { row := pairingCostsRow, standIns := [], harness := (true, "18bcd12e683394fc006070a9045f140f88091a0e3a00f3502442180ebefbff35"), looks := false }, kinds := [], alts := [], laidByText := true, laidKinds := [.data, .data], laidTests := true, laidLooks := .later }
def PairingCostsCardSaid : Prop := Claim7.holds Tryd.pinned (.plain (OpenSpec.ofChange pairingCostsSpec)) pairingCostsCard

/-- THE TIED CARD OF 'caissalaw43.PairingValues'. -/
def pairingValuesCard : Claim7 := { stood := { row := pairingValuesRow, standIns := [], harness := (true, "18bcd12e683394fc006070a9045f140f88091a0e3a00f3502442180ebefbff35"), looks := false }, kinds := [], alts := [], laidByText := true, laidKinds := [.data, .data], laidTests := true, laidLooks := .later }
def PairingValuesCardSaid : Prop := Claim7.holds Tryd.pinned (.plain (OpenSpec.ofChange pairingValuesSpec)) pairingValuesCard

/-- THE TIED CARD OF 'caissalaw43.PairingProves'. -/
def pairingProvesCard : Claim7 := { stood := { row := pairingProvesRow, standIns := [], harness := (true, "18bcd12e683394fc006070a9045f140f88091a0e3a00f3502442180ebefbff35"), looks := false }, kinds := [], alts := [], laidByText := true, laidKinds := [.data, .data], laidTests := true, laidLooks := .later }
def PairingProvesCardSaid : Prop := Claim7.holds Tryd.pinned (.plain (OpenSpec.ofChange pairingProvesSpec)) pairingProvesCard

/-- THE TIED CARD OF 'caissalaw43.PairingHolds'. -/
def pairingHoldsCard : Claim7 := { stood := { row := pairingHoldsRow, standIns := [], harness := (true, "18bcd12e683394fc006070a9045f140f88091a0e3a00f3502442180ebefbff35"), looks := false }, kinds := [], alts := [], laidByText := true, laidKinds := [.data, .data], laidTests := true, laidLooks := .later }
def PairingHoldsCardSaid : Prop := Claim7.holds Tryd.pinned (.plain (OpenSpec.ofChange pairingHoldsSpec)) pairingHoldsCard

/-- THE SECOND FORM's CARD OF 'caissalaw43.PairingValid'. -/
def pairingValidUptoCard : Claim7 := { stood := { row := pairingValidUptoRow, standIns := [], harness := (true, "18bcd12e683394fc006070a9045f140f88091a0e3a00f3502442180ebefbff35"), looks := false }, kinds := [], alts := [], laidByText := true, laidKinds := [.data, .data], laidTests := true, laidLooks := .later }
def PairingValidUptoCardSaid : Prop := Claim7.holds Tryd.pinned (.plain (OpenSpec.upto pairingValidSpec)) pairingValidUptoCard

/-- THE SECOND FORM's CARD OF 'caissalaw43.PairingPairs'. -/
def pairingPairsUptoCard : Claim7 := { stood := { row := pairingPairsUptoRow, standIns := [], harness := (true, "18bcd12e683394fc006070a9045f140f88091a0e3a00f3502442180ebefbff35"), looks := false }, kinds := [], alts := [], laidByText := true, laidKinds := [.data, .data], laidTests := true, laidLooks := .later }
def PairingPairsUptoCardSaid : Prop := Claim7.holds Tryd.pinned (.plain (OpenSpec.upto pairingPairsSpec)) pairingPairsUptoCard

/-- THE SECOND FORM's CARD OF 'caissalaw43.PairingCosts'. -/
def pairingCostsUptoCard : Claim7 := { stood := { row := pairingCostsUptoRow, standIns := [], harness := (true, "18bcd12e683394fc006070a9045f140f88091a0e3a00f3502442180ebefbff35"), looks := false }, kinds := [], alts := [], laidByText := true, laidKinds := [.data, .data], laidTests := true, laidLooks := .later }
def PairingCostsUptoCardSaid : Prop := Claim7.holds Tryd.pinned (.plain (OpenSpec.upto pairingCostsSpec)) pairingCostsUptoCard

/-- THE SECOND FORM's CARD OF 'caissalaw43.PairingValues'. -/
def pairingValuesUptoCard : Claim7 := { stood := { row := pairingValuesUptoRow, standIns := [], harness := (true, "18bcd12e683394fc006070a9045f140f88091a0e3a00f3502442180ebefbff35"), looks := false }, kinds := [], alts := [], laidByText := true, laidKinds := [.data, .data], laidTests := true, laidLooks := .later }
def PairingValuesUptoCardSaid : Prop := Claim7.holds Tryd.pinned (.plain (OpenSpec.upto pairingValuesSpec)) pairingValuesUptoCard

/-- THE SECOND FORM's CARD OF 'caissalaw43.PairingProves'. -/
def pairingProvesUptoCard : Claim7 := { stood := { row := pairingProvesUptoRow, standIns := [], harness := (true, "18bcd12e683394fc006070a9045f140f88091a0e3a00f3502442180ebefbff35"), looks := false }, kinds := [], alts := [], laidByText := true, laidKinds := [.data, .data], laidTests := true, laidLooks := .later }
def PairingProvesUptoCardSaid : Prop := Claim7.holds Tryd.pinned (.plain (OpenSpec.upto pairingProvesSpec)) pairingProvesUptoCard

/-- THE SECOND FORM's CARD OF 'caissalaw43.PairingHolds'. -/
def pairingHoldsUptoCard : Claim7 := { stood := { row := pairingHoldsUptoRow, standIns := [], harness := (true, "18bcd12e683394fc006070a9045f140f88091a0e3a00f3502442180ebefbff35"), looks := false }, kinds := [], alts := [], laidByText := true, laidKinds := [.data, .data], laidTests := true, laidLooks := .later }
def PairingHoldsUptoCardSaid : Prop := Claim7.holds Tryd.pinned (.plain (OpenSpec.upto pairingHoldsSpec)) pairingHoldsUptoCard
end Rows
end Go.Proofs.YtjjjdoealagpcaaDoor
