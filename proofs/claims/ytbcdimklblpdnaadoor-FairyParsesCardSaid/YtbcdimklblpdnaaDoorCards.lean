/-
  DERIVED. GIVEN WITH THE SEED: THE CARDS: each row of YtbcdimklblpdnaaDoorRows.lean that lists a variable, with what it lists TIED to the program's text (the seventh form; the later family's looks); each row that meets fmt, with fmt's text TOLD by the authors' own Lean function (tested against real Go, not proved from fmt's source: count such statements apart). THE CARD IS WHAT COUNTS. Prove the row's statement (the work); the ties are given (YtbcdimklblpdnaaDoorTie.lean); close each card by the builder's one call (the guide's Derived/Test/ToyasCard.lean, 'card_holds'). Laid BY PROGRAM, IN A SANDBOX (cutbox-door.mjs). By AI agents, Wed Nov 11 2026. No macro, syntax, notation, axiom, sorry.
-/
import Derived.Test.YtbcdimklblpdnaaDoorRows
import GoSem.ClaimSeven
namespace Go.Proofs.YtbcdimklblpdnaaDoor
namespace Rows

/-- THE TIED CARD OF 'caissalaw27.FairyParses'. -/
def fairyParsesCard : Claim7 := { stood := { row := fairyParsesRow, standIns := [], harness := (true, "a36a644a4508b25d404cfab50ea00f432ce667492e5a0e1c7826b0a96a1064e2"), looks := false }, kinds := [], alts := [], laidByText := true, laidKinds := [.data, .data, .pinned], laidTests := true, laidLooks := .later }
def FairyParsesCardSaid : Prop := Claim7.holds Tryd.pinned (.plain (OpenSpec.ofChange fairyParsesSpec)) fairyParsesCard

/-- THE SECOND FORM's CARD OF 'caissalaw27.FairyParses'. -/
def fairyParsesUptoCard : Claim7 := { stood := { row := fairyParsesUptoRow, standIns := [], harness := (true, "a36a644a4508b25d404cfab50ea00f432ce667492e5a0e1c7826b0a96a1064e2"), looks := false }, kinds := [], alts := [], laidByText := true, laidKinds := [.data, .data, .pinned], laidTests := true, laidLooks := .later }
def FairyParsesUptoCardSaid : Prop := Claim7.holds Tryd.pinned (.plain (OpenSpec.upto fairyParsesSpec)) fairyParsesUptoCard
end Rows
end Go.Proofs.YtbcdimklblpdnaaDoor
