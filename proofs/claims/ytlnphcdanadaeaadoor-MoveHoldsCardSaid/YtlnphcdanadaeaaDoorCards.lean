/-
  DERIVED. GIVEN WITH THE SEED: THE CARDS: each row of YtlnphcdanadaeaaDoorRows.lean that lists a variable, with what it lists TIED to the program's text (the seventh form; the later family's looks); each row that meets fmt, with fmt's text TOLD by the authors' own Lean function (tested against real Go, not proved from fmt's source: count such statements apart). THE CARD IS WHAT COUNTS. Prove the row's statement (the work); the ties are given (YtlnphcdanadaeaaDoorTie.lean); close each card by the builder's one call (the guide's Derived/Test/ToyasCard.lean, 'card_holds'). Laid BY PROGRAM, IN A SANDBOX (cutbox-door.mjs). By AI agents, Wed Nov 11 2026. No macro, syntax, notation, axiom, sorry.
-/
import Derived.Test.YtlnphcdanadaeaaDoorRows
import GoSem.ClaimSeven
namespace Go.Proofs.YtlnphcdanadaeaaDoor
namespace Rows

/-- THE TIED CARD OF 'caissalaw07.MoveTexts'. -/
def moveTextsCard : Claim7 := { stood := { row := moveTextsRow, standIns := [], harness := (true, "d1acb2a78442508dfe0172e11dbeb8684ff4149854403b427738f673b676589b"), looks := false }, kinds := [], alts := [], laidByText := true, laidKinds := [.data, .data, .pinned], laidTests := true, laidLooks := .later }
def MoveTextsCardSaid : Prop := Claim7.holds Tryd.pinned (.plain (OpenSpec.ofChange moveTextsSpec)) moveTextsCard

/-- THE TIED CARD OF 'caissalaw07.MoveParses'. -/
def moveParsesCard : Claim7 := { stood := { row := moveParsesRow, standIns := [], harness := (true, "d1acb2a78442508dfe0172e11dbeb8684ff4149854403b427738f673b676589b"), looks := false }, kinds := [], alts := [], laidByText := true, laidKinds := [.data, .data, .pinned], laidTests := true, laidLooks := .later }
def MoveParsesCardSaid : Prop := Claim7.holds Tryd.pinned (.plain (OpenSpec.ofChange moveParsesSpec)) moveParsesCard

/-- THE TIED CARD OF 'caissalaw07.MoveLines'. -/
def moveLinesCard : Claim7 := { stood := { row := moveLinesRow, standIns := [], harness := (true, "d1acb2a78442508dfe0172e11dbeb8684ff4149854403b427738f673b676589b"), looks := false }, kinds := [], alts := [], laidByText := true, laidKinds := [.data, .data, .pinned], laidTests := true, laidLooks := .later }
def MoveLinesCardSaid : Prop := Claim7.holds Tryd.pinned (.plain (OpenSpec.ofChange moveLinesSpec)) moveLinesCard

/-- THE TIED CARD OF 'caissalaw07.MoveReads'. -/
def moveReadsCard : Claim7 := { stood := { row := moveReadsRow, standIns := [], harness := (true, "d1acb2a78442508dfe0172e11dbeb8684ff4149854403b427738f673b676589b"), looks := false }, kinds := [], alts := [], laidByText := true, laidKinds := [.data, .data, .pinned], laidTests := true, laidLooks := .later }
def MoveReadsCardSaid : Prop := Claim7.holds Tryd.pinned (.plain (OpenSpec.ofChange moveReadsSpec)) moveReadsCard

/-- THE TIED CARD OF 'caissalaw07.MoveValid'. -/
def moveValidCard : Claim7 := { stood := { row := moveValidRow, standIns := [], harness := (true, "d1acb2a78442508dfe0172e11dbeb8684ff4149854403b427738f673b676589b"), looks := false }, kinds := [], alts := [], laidByText := true, laidKinds := [.data, .data, .pinned], laidTests := true, laidLooks := .later }
def MoveValidCardSaid : Prop := Claim7.holds Tryd.pinned (.plain (OpenSpec.ofChange moveValidSpec)) moveValidCard

/-- THE TIED CARD OF 'caissalaw07.MoveHolds'. -/
def moveHoldsCard : Claim7 := { stood := { row := moveHoldsRow, standIns := [], harness := (true, "d1acb2a78442508dfe0172e11dbeb8684ff4149854403b427738f673b676589b"), looks := false }, kinds := [], alts := [], laidByText := true, laidKinds := [.data, .data, .pinned], laidTests := true, laidLooks := .later }
def MoveHoldsCardSaid : Prop := Claim7.holds Tryd.pinned (.plain (OpenSpec.ofChange moveHoldsSpec)) moveHoldsCard

/-- THE SECOND FORM's CARD OF 'caissalaw07.MoveTexts'. -/
def moveTextsUptoCard : Claim7 := { stood := { row := moveTextsUptoRow, standIns := [], harness := (true, "d1acb2a78442508dfe0172e11dbeb8684ff4149854403b427738f673b676589b"), looks := false }, kinds := [], alts := [], laidByText := true, laidKinds := [.data, .data, .pinned], laidTests := true, laidLooks := .later }
def MoveTextsUptoCardSaid : Prop := Claim7.holds Tryd.pinned (.plain (OpenSpec.upto moveTextsSpec)) moveTextsUptoCard

/-- THE SECOND FORM's CARD OF 'caissalaw07.MoveParses'. -/
def moveParsesUptoCard : Claim7 := { stood := { row := moveParsesUptoRow, standIns := [], harness := (true, "d1acb2a78442508dfe0172e11dbeb8684ff4149854403b427738f673b676589b"), looks := false }, kinds := [], alts := [], laidByText := true, laidKinds := [.data, .data, .pinned], laidTests := true, laidLooks := .later }
def MoveParsesUptoCardSaid : Prop := Claim7.holds Tryd.pinned (.plain (OpenSpec.upto moveParsesSpec)) moveParsesUptoCard

/-- THE SECOND FORM's CARD OF 'caissalaw07.MoveLines'. -/
def moveLinesUptoCard : Claim7 := { stood := { row := moveLinesUptoRow, standIns := [], harness := (true, "d1acb2a78442508dfe0172e11dbeb8684ff4149854403b427738f673b676589b"), looks := false }, kinds := [], alts := [], laidByText := true, laidKinds := [.data, .data, .pinned], laidTests := true, laidLooks := .later }
def MoveLinesUptoCardSaid : Prop := Claim7.holds Tryd.pinned (.plain (OpenSpec.upto moveLinesSpec)) moveLinesUptoCard

/-- THE SECOND FORM's CARD OF 'caissalaw07.MoveReads'. -/
def moveReadsUptoCard : Claim7 := { stood := { row := moveReadsUptoRow, standIns := [], harness := (true, "d1acb2a78442508dfe0172e11dbeb8684ff4149854403b427738f673b676589b"), looks := false }, kinds := [], alts := [], laidByText := true, laidKinds := [.data, .data, .pinned], laidTests := true, laidLooks := .later }
def MoveReadsUptoCardSaid : Prop := Claim7.holds Tryd.pinned (.plain (OpenSpec.upto moveReadsSpec)) moveReadsUptoCard

/-- THE SECOND FORM's CARD OF 'caissalaw07.MoveValid'. -/
def moveValidUptoCard : Claim7 := { stood := { row := moveValidUptoRow, standIns := [], harness := (true, "d1acb2a78442508dfe0172e11dbeb8684ff4149854403b427738f673b676589b"), looks := false }, kinds := [], alts := [], laidByText := true, laidKinds := [.data, .data, .pinned], laidTests := true, laidLooks := .later }
def MoveValidUptoCardSaid : Prop := Claim7.holds Tryd.pinned (.plain (OpenSpec.upto moveValidSpec)) moveValidUptoCard

/-- THE SECOND FORM's CARD OF 'caissalaw07.MoveHolds'. -/
def moveHoldsUptoCard : Claim7 := { stood := { row := moveHoldsUptoRow, standIns := [], harness := (true, "d1acb2a78442508dfe0172e11dbeb8684ff4149854403b427738f673b676589b"), looks := false }, kinds := [], alts := [], laidByText := true, laidKinds := [.data, .data, .pinned], laidTests := true, laidLooks := .later }
def MoveHoldsUptoCardSaid : Prop := Claim7.holds Tryd.pinned (.plain (OpenSpec.upto moveHoldsSpec)) moveHoldsUptoCard
end Rows
end Go.Proofs.YtlnphcdanadaeaaDoor
