/-
  DERIVED. GIVEN WITH THE SEED: THE CARDS: each row of YtmlbaghbdhogpaaDoorRows.lean that lists a variable, with what it lists TIED to the program's text (the seventh form; the later family's looks); each row that meets fmt, with fmt's text TOLD by the authors' own Lean function (tested against real Go, not proved from fmt's source: count such statements apart). THE CARD IS WHAT COUNTS. Prove the row's statement (the work); the ties are given (YtmlbaghbdhogpaaDoorTie.lean); close each card by the builder's one call (the guide's Derived/Test/ToyasCard.lean, 'card_holds'). Laid BY PROGRAM, IN A SANDBOX (cutbox-door.mjs). By AI agents, Wed Nov 11 2026. No macro, syntax, notation, axiom, sorry.
-/
import Derived.Test.YtmlbaghbdhogpaaDoorRows
import GoSem.ClaimSeven
namespace Go.Proofs.YtmlbaghbdhogpaaDoor
namespace Rows

/-- THE TIED CARD OF 'caissalaw02.PieceValid'. -/
def pieceValidCard : Claim7 := { stood := { row := pieceValidRow, standIns := [], harness := (true, "6921addb8f80cdcd6ec967abd03b67a0d639f585950bf98b64fc2cb659a697b3"), looks := false }, kinds := [], alts := [], laidByText := true, laidKinds := [.data], laidTests := true, laidLooks := .later }
def PieceValidCardSaid : Prop := Claim7.holds Tryd.pinned (.plain (OpenSpec.ofChange pieceValidSpec)) pieceValidCard

/-- THE TIED CARD OF 'caissalaw02.PieceMakes'. -/
def pieceMakesCard : Claim7 := { stood := { row := pieceMakesRow, standIns := [], harness := (true, "6921addb8f80cdcd6ec967abd03b67a0d639f585950bf98b64fc2cb659a697b3"), looks := false }, kinds := [], alts := [], laidByText := true, laidKinds := [.data], laidTests := true, laidLooks := .later }
def PieceMakesCardSaid : Prop := Claim7.holds Tryd.pinned (.plain (OpenSpec.ofChange pieceMakesSpec)) pieceMakesCard

/-- THE TIED CARD OF 'caissalaw02.PieceLetters'. -/
def pieceLettersCard : Claim7 := { stood := { row := pieceLettersRow, standIns := [], harness := (true, "6921addb8f80cdcd6ec967abd03b67a0d639f585950bf98b64fc2cb659a697b3"), looks := false }, kinds := [], alts := [], laidByText := true, laidKinds := [.data], laidTests := true, laidLooks := .later }
def PieceLettersCardSaid : Prop := Claim7.holds Tryd.pinned (.plain (OpenSpec.ofChange pieceLettersSpec)) pieceLettersCard

/-- THE TIED CARD OF 'caissalaw02.PieceNames'. -/
def pieceNamesCard : Claim7 := { stood := { row := pieceNamesRow, standIns := [], harness := (true, "6921addb8f80cdcd6ec967abd03b67a0d639f585950bf98b64fc2cb659a697b3"), looks := false }, kinds := [], alts := [], laidByText := true, laidKinds := [.data], laidTests := true, laidLooks := .later }
def PieceNamesCardSaid : Prop := Claim7.holds Tryd.pinned (.plain (OpenSpec.ofChange pieceNamesSpec)) pieceNamesCard

/-- THE TIED CARD OF 'caissalaw02.PieceHolds'. -/
def pieceHoldsCard : Claim7 := { stood := { row := pieceHoldsRow, standIns := [], harness := (true, "6921addb8f80cdcd6ec967abd03b67a0d639f585950bf98b64fc2cb659a697b3"), looks := false }, kinds := [], alts := [], laidByText := true, laidKinds := [.data], laidTests := true, laidLooks := .later }
def PieceHoldsCardSaid : Prop := Claim7.holds Tryd.pinned (.plain (OpenSpec.ofChange pieceHoldsSpec)) pieceHoldsCard

/-- THE SECOND FORM's CARD OF 'caissalaw02.PieceValid'. -/
def pieceValidUptoCard : Claim7 := { stood := { row := pieceValidUptoRow, standIns := [], harness := (true, "6921addb8f80cdcd6ec967abd03b67a0d639f585950bf98b64fc2cb659a697b3"), looks := false }, kinds := [], alts := [], laidByText := true, laidKinds := [.data], laidTests := true, laidLooks := .later }
def PieceValidUptoCardSaid : Prop := Claim7.holds Tryd.pinned (.plain (OpenSpec.upto pieceValidSpec)) pieceValidUptoCard

/-- THE SECOND FORM's CARD OF 'caissalaw02.PieceMakes'. -/
def pieceMakesUptoCard : Claim7 := { stood := { row := pieceMakesUptoRow, standIns := [], harness := (true, "6921addb8f80cdcd6ec967abd03b67a0d639f585950bf98b64fc2cb659a697b3"), looks := false }, kinds := [], alts := [], laidByText := true, laidKinds := [.data], laidTests := true, laidLooks := .later }
def PieceMakesUptoCardSaid : Prop := Claim7.holds Tryd.pinned (.plain (OpenSpec.upto pieceMakesSpec)) pieceMakesUptoCard

/-- THE SECOND FORM's CARD OF 'caissalaw02.PieceLetters'. -/
def pieceLettersUptoCard : Claim7 := { stood := { row := pieceLettersUptoRow, standIns := [], harness := (true, "6921addb8f80cdcd6ec967abd03b67a0d639f585950bf98b64fc2cb659a697b3"), looks := false }, kinds := [], alts := [], laidByText := true, laidKinds := [.data], laidTests := true, laidLooks := .later }
def PieceLettersUptoCardSaid : Prop := Claim7.holds Tryd.pinned (.plain (OpenSpec.upto pieceLettersSpec)) pieceLettersUptoCard

/-- THE SECOND FORM's CARD OF 'caissalaw02.PieceNames'. -/
def pieceNamesUptoCard : Claim7 := { stood := { row := pieceNamesUptoRow, standIns := [], harness := (true, "6921addb8f80cdcd6ec967abd03b67a0d639f585950bf98b64fc2cb659a697b3"), looks := false }, kinds := [], alts := [], laidByText := true, laidKinds := [.data], laidTests := true, laidLooks := .later }
def PieceNamesUptoCardSaid : Prop := Claim7.holds Tryd.pinned (.plain (OpenSpec.upto pieceNamesSpec)) pieceNamesUptoCard

/-- THE SECOND FORM's CARD OF 'caissalaw02.PieceHolds'. -/
def pieceHoldsUptoCard : Claim7 := { stood := { row := pieceHoldsUptoRow, standIns := [], harness := (true, "6921addb8f80cdcd6ec967abd03b67a0d639f585950bf98b64fc2cb659a697b3"), looks := false }, kinds := [], alts := [], laidByText := true, laidKinds := [.data], laidTests := true, laidLooks := .later }
def PieceHoldsUptoCardSaid : Prop := Claim7.holds Tryd.pinned (.plain (OpenSpec.upto pieceHoldsSpec)) pieceHoldsUptoCard
end Rows
end Go.Proofs.YtmlbaghbdhogpaaDoor
