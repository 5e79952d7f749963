/-
  DERIVED. GIVEN WITH THE SEED: THE CARDS: each row of YtlmdmdjcokmgjaaDoorRows.lean that lists a variable, with what it lists TIED to the program's text (the seventh form; the later family's looks); each row that meets fmt, with fmt's text TOLD by the authors' own Lean function (tested against real Go, not proved from fmt's source: count such statements apart). THE CARD IS WHAT COUNTS. Prove the row's statement (the work); the ties are given (YtlmdmdjcokmgjaaDoorTie.lean); close each card by the builder's one call (the guide's Derived/Test/ToyasCard.lean, 'card_holds'). Laid BY PROGRAM, IN A SANDBOX (cutbox-door.mjs). By AI agents, Wed Nov 11 2026. No macro, syntax, notation, axiom, sorry.
-/
import Derived.Test.YtlmdmdjcokmgjaaDoorRows
import GoSem.ClaimSeven
namespace Go.Proofs.YtlmdmdjcokmgjaaDoor
namespace Rows

/-- THE TIED CARD OF 'caissalaw45.RatingExpects'. -/
def ratingExpectsCard : Claim7 := { stood := { row := ratingExpectsRow, standIns := [], harness := (true, "044916eb6fab48cb04533475b8879a3fe6bd859e4d587a09dc7ef4ba5f40d793"), looks := false }, kinds := [], alts := [], laidByText := true, laidKinds := [.data], laidTests := true, laidLooks := .later }
def RatingExpectsCardSaid : Prop := Claim7.holds Tryd.pinned (.plain (OpenSpec.ofChange ratingExpectsSpec)) ratingExpectsCard

/-- THE TIED CARD OF 'caissalaw45.RatingNexts'. -/
def ratingNextsCard : Claim7 := { stood := { row := ratingNextsRow, standIns := [], harness := (true, "044916eb6fab48cb04533475b8879a3fe6bd859e4d587a09dc7ef4ba5f40d793"), looks := false }, kinds := [], alts := [], laidByText := true, laidKinds := [.data], laidTests := true, laidLooks := .later }
def RatingNextsCardSaid : Prop := Claim7.holds Tryd.pinned (.plain (OpenSpec.ofChange ratingNextsSpec)) ratingNextsCard

/-- THE TIED CARD OF 'caissalaw45.RatingPerforms'. -/
def ratingPerformsCard : Claim7 := { stood := { row := ratingPerformsRow, standIns := [], harness := (true, "044916eb6fab48cb04533475b8879a3fe6bd859e4d587a09dc7ef4ba5f40d793"), looks := false }, kinds := [], alts := [], laidByText := true, laidKinds := [.data], laidTests := true, laidLooks := .later }
def RatingPerformsCardSaid : Prop := Claim7.holds Tryd.pinned (.plain (OpenSpec.ofChange ratingPerformsSpec)) ratingPerformsCard

/-- THE TIED CARD OF 'caissalaw45.RatingHolds'. -/
def ratingHoldsCard : Claim7 := { stood := { row := ratingHoldsRow, standIns := [], harness := (true, "044916eb6fab48cb04533475b8879a3fe6bd859e4d587a09dc7ef4ba5f40d793"), looks := false }, kinds := [], alts := [], laidByText := true, laidKinds := [.data], laidTests := true, laidLooks := .later }
def RatingHoldsCardSaid : Prop := Claim7.holds Tryd.pinned (.plain (OpenSpec.ofChange ratingHoldsSpec)) ratingHoldsCard

/-- THE TIED CARD OF 'caissalaw45.RatingSeasons'. -/
def ratingSeasonsCard : Claim7 := { stood := { row := ratingSeasonsRow, standIns := [], harness := (true, "044916eb6fab48cb04533475b8879a3fe6bd859e4d587a09dc7ef4ba5f40d793"), looks := false }, kinds := [], alts := [], laidByText := true, laidKinds := [.data], laidTests := true, laidLooks := .later }
def RatingSeasonsCardSaid : Prop := Claim7.holds Tryd.pinned (.plain (OpenSpec.ofChange ratingSeasonsSpec)) ratingSeasonsCard

/-- THE SECOND FORM's CARD OF 'caissalaw45.RatingExpects'. -/
def ratingExpectsUptoCard : Claim7 := { stood := { row := ratingExpectsUptoRow, standIns := [], harness := (true, "044916eb6fab48cb04533475b8879a3fe6bd859e4d587a09dc7ef4ba5f40d793"), looks := false }, kinds := [], alts := [], laidByText := true, laidKinds := [.data], laidTests := true, laidLooks := .later }
def RatingExpectsUptoCardSaid : Prop := Claim7.holds Tryd.pinned (.plain (OpenSpec.upto ratingExpectsSpec)) ratingExpectsUptoCard

/-- THE SECOND FORM's CARD OF 'caissalaw45.RatingNexts'. -/
def ratingNextsUptoCard : Claim7 := { stood := { row := ratingNextsUptoRow, standIns := [], harness := (true, "044916eb6fab48cb04533475b8879a3fe6bd859e4d587a09dc7ef4ba5f40d793"), looks := false }, kinds := [], alts := [], laidByText := true, laidKinds := [.data], laidTests := true, laidLooks := .later }
def RatingNextsUptoCardSaid : Prop := Claim7.holds Tryd.pinned (.plain (OpenSpec.upto ratingNextsSpec)) ratingNextsUptoCard

/-- THE SECOND FORM's CARD OF 'caissalaw45.RatingPerforms'. -/
def ratingPerformsUptoCard : Claim7 := { stood := { row := ratingPerformsUptoRow, standIns := [], harness := (true, "044916eb6fab48cb04533475b8879a3fe6bd859e4d587a09dc7ef4ba5f40d793"), looks := false }, kinds := [], alts := [], laidByText := true, laidKinds := [.data], laidTests := true, laidLooks := .later }
def RatingPerformsUptoCardSaid : Prop := Claim7.holds Tryd.pinned (.plain (OpenSpec.upto ratingPerformsSpec)) ratingPerformsUptoCard

/-- THE SECOND FORM's CARD OF 'caissalaw45.RatingHolds'. -/
def ratingHoldsUptoCard : Claim7 := { stood := { row := ratingHoldsUptoRow, standIns := [], harness := (true, "044916eb6fab48cb04533475b8879a3fe6bd859e4d587a09dc7ef4ba5f40d793"), looks := false }, kinds := [], alts := [], laidByText := true, laidKinds := [.data], laidTests := true, laidLooks := .later }
def RatingHoldsUptoCardSaid : Prop := Claim7.holds Tryd.pinned (.plain (OpenSpec.upto ratingHoldsSpec)) ratingHoldsUptoCard

/-- THE SECOND FORM's CARD OF 'caissalaw45.RatingSeasons'. -/
def ratingSeasonsUptoCard : Claim7 := { stood := { row := ratingSeasonsUptoRow, standIns := [], harness := (true, "044916eb6fab48cb04533475b8879a3fe6bd859e4d587a09dc7ef4ba5f40d793"), looks := false }, kinds := [], alts := [], laidByText := true, laidKinds := [.data], laidTests := true, laidLooks := .later }
def RatingSeasonsUptoCardSaid : Prop := Claim7.holds Tryd.pinned (.plain (OpenSpec.upto ratingSeasonsSpec)) ratingSeasonsUptoCard
end Rows
end Go.Proofs.YtlmdmdjcokmgjaaDoor
