/-
  DERIVED. GIVEN WITH THE SEED: THE CARDS: each row of YtjglpphfkkabnaaDoorRows.lean that lists a variable, with what it lists TIED to the program's text (the seventh form; the later family's looks); each row that meets fmt, with fmt's text TOLD by the authors' own Lean function (tested against real Go, not proved from fmt's source: count such statements apart). THE CARD IS WHAT COUNTS. Prove the row's statement (the work); the ties are given (YtjglpphfkkabnaaDoorTie.lean); close each card by the builder's one call (the guide's Derived/Test/ToyasCard.lean, 'card_holds'). Laid BY PROGRAM, IN A SANDBOX (cutbox-door.mjs). By AI agents, Wed Nov 11 2026. No macro, syntax, notation, axiom, sorry.
-/
import Derived.Test.YtjglpphfkkabnaaDoorRows
import GoSem.ClaimSeven
namespace Go.Proofs.YtjglpphfkkabnaaDoor
namespace Rows

/-- THE TIED CARD OF 'caissalaw03.BoardPuts'. -/
def boardPutsCard : Claim7 := { stood := { row := boardPutsRow, standIns := [], harness := (true, "eb47cc8f19f197d37e2f7bf9a6126f0705199ad1f24e06a668e10569fb5d2d1b"), looks := false }, kinds := [], alts := [], laidByText := true, laidKinds := [.data, .data, .pinned], laidTests := true, laidLooks := .later }
def BoardPutsCardSaid : Prop := Claim7.holds Tryd.pinned (.plain (OpenSpec.ofChange boardPutsSpec)) boardPutsCard

/-- THE TIED CARD OF 'caissalaw03.BoardFinds'. -/
def boardFindsCard : Claim7 := { stood := { row := boardFindsRow, standIns := [], harness := (true, "eb47cc8f19f197d37e2f7bf9a6126f0705199ad1f24e06a668e10569fb5d2d1b"), looks := false }, kinds := [], alts := [], laidByText := true, laidKinds := [.data, .data, .pinned], laidTests := true, laidLooks := .later }
def BoardFindsCardSaid : Prop := Claim7.holds Tryd.pinned (.plain (OpenSpec.ofChange boardFindsSpec)) boardFindsCard

/-- THE TIED CARD OF 'caissalaw03.BoardTexts'. -/
def boardTextsCard : Claim7 := { stood := { row := boardTextsRow, standIns := [], harness := (true, "eb47cc8f19f197d37e2f7bf9a6126f0705199ad1f24e06a668e10569fb5d2d1b"), looks := false }, kinds := [], alts := [], laidByText := true, laidKinds := [.data, .data, .pinned], laidTests := true, laidLooks := .later }
def BoardTextsCardSaid : Prop := Claim7.holds Tryd.pinned (.plain (OpenSpec.ofChange boardTextsSpec)) boardTextsCard

/-- THE TIED CARD OF 'caissalaw03.BoardParses'. -/
def boardParsesCard : Claim7 := { stood := { row := boardParsesRow, standIns := [], harness := (true, "eb47cc8f19f197d37e2f7bf9a6126f0705199ad1f24e06a668e10569fb5d2d1b"), looks := false }, kinds := [], alts := [], laidByText := true, laidKinds := [.data, .data, .pinned], laidTests := true, laidLooks := .later }
def BoardParsesCardSaid : Prop := Claim7.holds Tryd.pinned (.plain (OpenSpec.ofChange boardParsesSpec)) boardParsesCard

/-- THE TIED CARD OF 'caissalaw03.BoardHolds'. -/
def boardHoldsCard : Claim7 := { stood := { row := boardHoldsRow, standIns := [], harness := (true, "eb47cc8f19f197d37e2f7bf9a6126f0705199ad1f24e06a668e10569fb5d2d1b"), looks := false }, kinds := [], alts := [], laidByText := true, laidKinds := [.data, .data, .pinned], laidTests := true, laidLooks := .later }
def BoardHoldsCardSaid : Prop := Claim7.holds Tryd.pinned (.plain (OpenSpec.ofChange boardHoldsSpec)) boardHoldsCard

/-- THE TIED CARD OF 'caissalaw03.BoardValid'. -/
def boardValidCard : Claim7 := { stood := { row := boardValidRow, standIns := [], harness := (true, "eb47cc8f19f197d37e2f7bf9a6126f0705199ad1f24e06a668e10569fb5d2d1b"), looks := false }, kinds := [], alts := [], laidByText := true, laidKinds := [.data, .data, .pinned], laidTests := true, laidLooks := .later }
def BoardValidCardSaid : Prop := Claim7.holds Tryd.pinned (.plain (OpenSpec.ofChange boardValidSpec)) boardValidCard

/-- THE SECOND FORM's CARD OF 'caissalaw03.BoardPuts'. -/
def boardPutsUptoCard : Claim7 := { stood := { row := boardPutsUptoRow, standIns := [], harness := (true, "eb47cc8f19f197d37e2f7bf9a6126f0705199ad1f24e06a668e10569fb5d2d1b"), looks := false }, kinds := [], alts := [], laidByText := true, laidKinds := [.data, .data, .pinned], laidTests := true, laidLooks := .later }
def BoardPutsUptoCardSaid : Prop := Claim7.holds Tryd.pinned (.plain (OpenSpec.upto boardPutsSpec)) boardPutsUptoCard

/-- THE SECOND FORM's CARD OF 'caissalaw03.BoardFinds'. -/
def boardFindsUptoCard : Claim7 := { stood := { row := boardFindsUptoRow, standIns := [], harness := (true, "eb47cc8f19f197d37e2f7bf9a6126f0705199ad1f24e06a668e10569fb5d2d1b"), looks := false }, kinds := [], alts := [], laidByText := true, laidKinds := [.data, .data, .pinned], laidTests := true, laidLooks := .later }
def BoardFindsUptoCardSaid : Prop := Claim7.holds Tryd.pinned (.plain (OpenSpec.upto boardFindsSpec)) boardFindsUptoCard

/-- THE SECOND FORM's CARD OF 'caissalaw03.BoardTexts'. -/
def boardTextsUptoCard : Claim7 := { stood := { row := boardTextsUptoRow, standIns := [], harness := (true, "eb47cc8f19f197d37e2f7bf9a6126f0705199ad1f24e06a668e10569fb5d2d1b"), looks := false }, kinds := [], alts := [], laidByText := true, laidKinds := [.data, .data, .pinned], laidTests := true, laidLooks := .later }
def BoardTextsUptoCardSaid : Prop := Claim7.holds Tryd.pinned (.plain (OpenSpec.upto boardTextsSpec)) boardTextsUptoCard

/-- THE SECOND FORM's CARD OF 'caissalaw03.BoardParses'. -/
def boardParsesUptoCard : Claim7 := { stood := { row := boardParsesUptoRow, standIns := [], harness := (true, "eb47cc8f19f197d37e2f7bf9a6126f0705199ad1f24e06a668e10569fb5d2d1b"), looks := false }, kinds := [], alts := [], laidByText := true, laidKinds := [.data, .data, .pinned], laidTests := true, laidLooks := .later }
def BoardParsesUptoCardSaid : Prop := Claim7.holds Tryd.pinned (.plain (OpenSpec.upto boardParsesSpec)) boardParsesUptoCard

/-- THE SECOND FORM's CARD OF 'caissalaw03.BoardHolds'. -/
def boardHoldsUptoCard : Claim7 := { stood := { row := boardHoldsUptoRow, standIns := [], harness := (true, "eb47cc8f19f197d37e2f7bf9a6126f0705199ad1f24e06a668e10569fb5d2d1b"), looks := false }, kinds := [], alts := [], laidByText := true, laidKinds := [.data, .data, .pinned], laidTests := true, laidLooks := .later }
def BoardHoldsUptoCardSaid : Prop := Claim7.holds Tryd.pinned (.plain (OpenSpec.upto boardHoldsSpec)) boardHoldsUptoCard

/-- THE SECOND FORM's CARD OF 'caissalaw03.BoardValid'. -/
def boardValidUptoCard : Claim7 := { stood := { row := boardValidUptoRow, standIns := [], harness := (true, "eb47cc8f19f197d37e2f7bf9a6126f0705199ad1f24e06a668e10569fb5d2d1b"), looks := false }, kinds := [], alts := [], laidByText := true, laidKinds := [.data, .data, .pinned], laidTests := true, laidLooks := .later }
def BoardValidUptoCardSaid : Prop := Claim7.holds Tryd.pinned (.plain (OpenSpec.upto boardValidSpec)) boardValidUptoCard
end Rows
end Go.Proofs.YtjglpphfkkabnaaDoor
