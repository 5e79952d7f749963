/-
  DERIVED. GIVEN WITH THE SEED: THE CARDS: each row of YtbcdimklblpdnaaGreatDoorRows.lean that lists a variable, with what it lists TIED to the program's text (the seventh form; the later family's looks); each row that meets fmt, with fmt's text TOLD by the authors' own Lean function (tested against real Go, not proved from fmt's source: count such statements apart). THE CARD IS WHAT COUNTS. Prove the row's statement (the work); the ties are given (YtbcdimklblpdnaaGreatDoorTie.lean); close each card by the builder's one call (the guide's Derived/Test/ToyasCard.lean, 'card_holds'). Laid BY PROGRAM, IN A SANDBOX (cutbox-door.mjs). By AI agents, Wed Nov 11 2026. No macro, syntax, notation, axiom, sorry.
-/
import Derived.Test.YtbcdimklblpdnaaGreatDoorRows
import GoSem.ClaimSeven
namespace Go.Proofs.YtbcdimklblpdnaaGreatDoor
namespace Rows

/-- THE TIED CARD OF 'caissalaw27.FairySteps'. -/
def fairyStepsCard : Claim7 := { stood := { row := fairyStepsRow, standIns := [], harness := (true, "9d73225bdb51c80b9a1b23540ca216dd6b70539535b8cffc10de98ccd2a35950"), looks := false }, kinds := [], alts := [], laidByText := true, laidKinds := [.data, .data, .pinned], laidTests := true, laidLooks := .later }
def FairyStepsCardSaid : Prop := Claim7.holds Tryz.pinned (.plain (OpenSpec.ofChange fairyStepsSpec)) fairyStepsCard

/-- THE TIED CARD OF 'caissalaw27.FairyReaches'. -/
def fairyReachesCard : Claim7 := { stood := { row := fairyReachesRow, standIns := [], harness := (true, "9d73225bdb51c80b9a1b23540ca216dd6b70539535b8cffc10de98ccd2a35950"), looks := false }, kinds := [], alts := [], laidByText := true, laidKinds := [.data, .data, .pinned], laidTests := true, laidLooks := .later }
def FairyReachesCardSaid : Prop := Claim7.holds Tryz.pinned (.plain (OpenSpec.ofChange fairyReachesSpec)) fairyReachesCard

/-- THE TIED CARD OF 'caissalaw27.FairyUsuals'. -/
def fairyUsualsCard : Claim7 := { stood := { row := fairyUsualsRow, standIns := [], harness := (true, "9d73225bdb51c80b9a1b23540ca216dd6b70539535b8cffc10de98ccd2a35950"), looks := false }, kinds := [], alts := [], laidByText := true, laidKinds := [.data, .data, .pinned], laidTests := true, laidLooks := .later }
def FairyUsualsCardSaid : Prop := Claim7.holds Tryz.pinned (.plain (OpenSpec.ofChange fairyUsualsSpec)) fairyUsualsCard

/-- THE TIED CARD OF 'caissalaw27.FairyTexts'. -/
def fairyTextsCard : Claim7 := { stood := { row := fairyTextsRow, standIns := [], harness := (true, "9d73225bdb51c80b9a1b23540ca216dd6b70539535b8cffc10de98ccd2a35950"), looks := false }, kinds := [], alts := [], laidByText := true, laidKinds := [.data, .data, .pinned], laidTests := true, laidLooks := .later }
def FairyTextsCardSaid : Prop := Claim7.holds Tryz.pinned (.plain (OpenSpec.ofChange fairyTextsSpec)) fairyTextsCard

/-- THE TIED CARD OF 'caissalaw27.FairyValids'. -/
def fairyValidsCard : Claim7 := { stood := { row := fairyValidsRow, standIns := [], harness := (true, "9d73225bdb51c80b9a1b23540ca216dd6b70539535b8cffc10de98ccd2a35950"), looks := false }, kinds := [], alts := [], laidByText := true, laidKinds := [.data, .data, .pinned], laidTests := true, laidLooks := .later }
def FairyValidsCardSaid : Prop := Claim7.holds Tryz.pinned (.plain (OpenSpec.ofChange fairyValidsSpec)) fairyValidsCard

/-- THE TIED CARD OF 'caissalaw27.FairyHolds'. -/
def fairyHoldsCard : Claim7 := { stood := { row := fairyHoldsRow, standIns := [], harness := (true, "9d73225bdb51c80b9a1b23540ca216dd6b70539535b8cffc10de98ccd2a35950"), looks := false }, kinds := [], alts := [], laidByText := true, laidKinds := [.data, .data, .widerDeep, .widerDeep, .widerDeep, .pinned], laidTests := true, laidLooks := .later }
def FairyHoldsCardSaid : Prop := Claim7.holds Tryz.pinned (.plain (OpenSpec.ofChange fairyHoldsSpec)) fairyHoldsCard

/-- THE SECOND FORM's CARD OF 'caissalaw27.FairySteps'. -/
def fairyStepsUptoCard : Claim7 := { stood := { row := fairyStepsUptoRow, standIns := [], harness := (true, "9d73225bdb51c80b9a1b23540ca216dd6b70539535b8cffc10de98ccd2a35950"), looks := false }, kinds := [], alts := [], laidByText := true, laidKinds := [.data, .data, .pinned], laidTests := true, laidLooks := .later }
def FairyStepsUptoCardSaid : Prop := Claim7.holds Tryz.pinned (.plain (OpenSpec.upto fairyStepsSpec)) fairyStepsUptoCard

/-- THE SECOND FORM's CARD OF 'caissalaw27.FairyReaches'. -/
def fairyReachesUptoCard : Claim7 := { stood := { row := fairyReachesUptoRow, standIns := [], harness := (true, "9d73225bdb51c80b9a1b23540ca216dd6b70539535b8cffc10de98ccd2a35950"), looks := false }, kinds := [], alts := [], laidByText := true, laidKinds := [.data, .data, .pinned], laidTests := true, laidLooks := .later }
def FairyReachesUptoCardSaid : Prop := Claim7.holds Tryz.pinned (.plain (OpenSpec.upto fairyReachesSpec)) fairyReachesUptoCard

/-- THE SECOND FORM's CARD OF 'caissalaw27.FairyUsuals'. -/
def fairyUsualsUptoCard : Claim7 := { stood := { row := fairyUsualsUptoRow, standIns := [], harness := (true, "9d73225bdb51c80b9a1b23540ca216dd6b70539535b8cffc10de98ccd2a35950"), looks := false }, kinds := [], alts := [], laidByText := true, laidKinds := [.data, .data, .pinned], laidTests := true, laidLooks := .later }
def FairyUsualsUptoCardSaid : Prop := Claim7.holds Tryz.pinned (.plain (OpenSpec.upto fairyUsualsSpec)) fairyUsualsUptoCard

/-- THE SECOND FORM's CARD OF 'caissalaw27.FairyTexts'. -/
def fairyTextsUptoCard : Claim7 := { stood := { row := fairyTextsUptoRow, standIns := [], harness := (true, "9d73225bdb51c80b9a1b23540ca216dd6b70539535b8cffc10de98ccd2a35950"), looks := false }, kinds := [], alts := [], laidByText := true, laidKinds := [.data, .data, .pinned], laidTests := true, laidLooks := .later }
def FairyTextsUptoCardSaid : Prop := Claim7.holds Tryz.pinned (.plain (OpenSpec.upto fairyTextsSpec)) fairyTextsUptoCard

/-- THE SECOND FORM's CARD OF 'caissalaw27.FairyValids'. -/
def fairyValidsUptoCard : Claim7 := { stood := { row := fairyValidsUptoRow, standIns := [], harness := (true, "9d73225bdb51c80b9a1b23540ca216dd6b70539535b8cffc10de98ccd2a35950"), looks := false }, kinds := [], alts := [], laidByText := true, laidKinds := [.data, .data, .pinned], laidTests := true, laidLooks := .later }
def FairyValidsUptoCardSaid : Prop := Claim7.holds Tryz.pinned (.plain (OpenSpec.upto fairyValidsSpec)) fairyValidsUptoCard

/-- THE SECOND FORM's CARD OF 'caissalaw27.FairyHolds'. -/
def fairyHoldsUptoCard : Claim7 := { stood := { row := fairyHoldsUptoRow, standIns := [], harness := (true, "9d73225bdb51c80b9a1b23540ca216dd6b70539535b8cffc10de98ccd2a35950"), looks := false }, kinds := [], alts := [], laidByText := true, laidKinds := [.data, .data, .widerDeep, .widerDeep, .widerDeep, .pinned], laidTests := true, laidLooks := .later }
def FairyHoldsUptoCardSaid : Prop := Claim7.holds Tryz.pinned (.plain (OpenSpec.upto fairyHoldsSpec)) fairyHoldsUptoCard
end Rows
end Go.Proofs.YtbcdimklblpdnaaGreatDoor
