/-
  NARROWER THAN 'FOR EVERY INPUT', by the rows' own cells (each row's printed sentence says how): SquareSizes: laid · SquarePlaces: laid · SquareParses: laid · SquareDistances: laid · SquareShifts: laid · SquareHolds: laid · SquareSets: laid.
  DERIVED. THE GIVEN ROWS OF THIS SEAT. 7 by the template 'for every input the law returns true; each argument reads behind the call as it read before'; 0 by the template 'total and deterministic' (their statements: YtjjchodcoeciaaaDoorTotals.lean).
  GIVEN WITH THE SEED: the statements are not yours to turn. If you find one false, say at which input.
  Laid BY PROGRAM, IN A SANDBOX (cutbox-rows.mjs): the forced cells as the released guide's own fill.sh prints them over the translation 691614f78f10e467… (all of the seat's roots in one cut). By AI agents, Wed Nov 11 2026. No macro, syntax, notation, axiom, sorry.
-/
import Derived.Test.YtjjchodcoeciaaaDoorChecked
import GoSem.Claim
import GoSem.ClaimJoined
import GoSem.ClaimMapViews
import Derived.JoinedTies
import Derived.KernelRfl
namespace Go.Proofs.YtjjchodcoeciaaaDoor
/- THE CELL 'sum', in the pinned program and in every row, IS THE sha256 OF THE DUMP (.gsa) THAT YtjjchodcoeciaaaDoorProg.lean LOADS. Nothing in Lean hashes anything: it is a label: what it is worth is what the hold of that sum in a sandbox is worth. -/
noncomputable def Tryd.pinned : Pinned := { name := "ytjjchodcoeciaaadoor", sum := "691614f78f10e4671a4b0fbaea8cb7d205bd246ee74bffa3a235229e06e3fd5e", checked := Tryd.checked }
namespace Rows
def none {H : Type} : Left H := { results := [], args := [] }

/- WHAT THE LISTED PACKAGE-LEVEL VARIABLES READ AS WHEN THE CALL BEGINS. Each datum BY PROGRAM (the guide's laid-datum.mjs) off the statement by which the dump's own 'gosem.cut.vars' lays the variable. In a bare row this is a premise. The card (YtjjchodcoeciaaaDoorCards.lean) ties it to the program's text. -/
def laid_math_bits_deBruijn64tab {H : Type} : DataW H := .agg [.lit (.int .u8 0), .lit (.int .u8 1), .lit (.int .u8 56), .lit (.int .u8 2), .lit (.int .u8 57), .lit (.int .u8 49), .lit (.int .u8 28), .lit (.int .u8 3), .lit (.int .u8 61), .lit (.int .u8 58), .lit (.int .u8 42), .lit (.int .u8 50), .lit (.int .u8 38), .lit (.int .u8 29), .lit (.int .u8 17), .lit (.int .u8 4), .lit (.int .u8 62), .lit (.int .u8 47), .lit (.int .u8 59), .lit (.int .u8 36), .lit (.int .u8 45), .lit (.int .u8 43), .lit (.int .u8 51), .lit (.int .u8 22), .lit (.int .u8 53), .lit (.int .u8 39), .lit (.int .u8 33), .lit (.int .u8 30), .lit (.int .u8 24), .lit (.int .u8 18), .lit (.int .u8 12), .lit (.int .u8 5), .lit (.int .u8 63), .lit (.int .u8 55), .lit (.int .u8 48), .lit (.int .u8 27), .lit (.int .u8 60), .lit (.int .u8 41), .lit (.int .u8 37), .lit (.int .u8 16), .lit (.int .u8 46), .lit (.int .u8 35), .lit (.int .u8 44), .lit (.int .u8 21), .lit (.int .u8 52), .lit (.int .u8 32), .lit (.int .u8 23), .lit (.int .u8 11), .lit (.int .u8 54), .lit (.int .u8 26), .lit (.int .u8 40), .lit (.int .u8 15), .lit (.int .u8 34), .lit (.int .u8 20), .lit (.int .u8 31), .lit (.int .u8 10), .lit (.int .u8 25), .lit (.int .u8 14), .lit (.int .u8 19), .lit (.int .u8 9), .lit (.int .u8 13), .lit (.int .u8 8), .lit (.int .u8 7), .lit (.int .u8 6)]

/-- 'caissalaw01.SquareSizes': WHATEVER THE INPUT: true; the input reads as it did. -/
def squareSizesSpec : ChangeSpec := { name := "squareSizes", fn := fun _ => fun
  | [d1, d2] => { results := [.lit (.bool true)], args := [d1, d2] }
  | _ => none }
def squareSizesRow : OpenClaim := { program := "ytjjchodcoeciaaadoor", sum := "691614f78f10e4671a4b0fbaea8cb7d205bd246ee74bffa3a235229e06e3fd5e", func := "caissa/caissalaw01.SquareSizes", spec := "squareSizes", unfollowed := true, recurses := true, named := ["math/bits.deBruijn64tab"], apart := false, laid := [("math/bits.deBruijn64tab", laid_math_bits_deBruijn64tab)] }
def SquareSizesSaid : Prop := squareSizesRow.holds Tryd.pinned (OpenSpec.ofChange squareSizesSpec)

/-- ITS FALSE NEIGHBOUR: 'it returns false'. Refute it at one input. -/
def squareSizesWrong : ChangeSpec := { name := "squareSizes", fn := fun _ => fun
  | [d1, d2] => { results := [.lit (.bool false)], args := [d1, d2] }
  | _ => none }
def SquareSizesWrongFalsely : Prop := squareSizesRow.holds Tryd.pinned (OpenSpec.ofChange squareSizesWrong)

/-- 'caissalaw01.SquarePlaces': WHATEVER THE INPUT: true; the input reads as it did. -/
def squarePlacesSpec : ChangeSpec := { name := "squarePlaces", fn := fun _ => fun
  | [d1, d2, d3, d4] => { results := [.lit (.bool true)], args := [d1, d2, d3, d4] }
  | _ => none }
def squarePlacesRow : OpenClaim := { program := "ytjjchodcoeciaaadoor", sum := "691614f78f10e4671a4b0fbaea8cb7d205bd246ee74bffa3a235229e06e3fd5e", func := "caissa/caissalaw01.SquarePlaces", spec := "squarePlaces", unfollowed := true, recurses := true, named := ["math/bits.deBruijn64tab"], apart := false, laid := [("math/bits.deBruijn64tab", laid_math_bits_deBruijn64tab)] }
def SquarePlacesSaid : Prop := squarePlacesRow.holds Tryd.pinned (OpenSpec.ofChange squarePlacesSpec)

/-- ITS FALSE NEIGHBOUR: 'it returns false'. Refute it at one input. -/
def squarePlacesWrong : ChangeSpec := { name := "squarePlaces", fn := fun _ => fun
  | [d1, d2, d3, d4] => { results := [.lit (.bool false)], args := [d1, d2, d3, d4] }
  | _ => none }
def SquarePlacesWrongFalsely : Prop := squarePlacesRow.holds Tryd.pinned (OpenSpec.ofChange squarePlacesWrong)

/-- 'caissalaw01.SquareParses': WHATEVER THE INPUT: true; the input reads as it did. -/
def squareParsesSpec : ChangeSpec := { name := "squareParses", fn := fun _ => fun
  | [d1, d2] => { results := [.lit (.bool true)], args := [d1, d2] }
  | _ => none }
def squareParsesRow : OpenClaim := { program := "ytjjchodcoeciaaadoor", sum := "691614f78f10e4671a4b0fbaea8cb7d205bd246ee74bffa3a235229e06e3fd5e", func := "caissa/caissalaw01.SquareParses", spec := "squareParses", unfollowed := true, recurses := true, named := ["math/bits.deBruijn64tab"], apart := false, laid := [("math/bits.deBruijn64tab", laid_math_bits_deBruijn64tab)] }
def SquareParsesSaid : Prop := squareParsesRow.holds Tryd.pinned (OpenSpec.ofChange squareParsesSpec)

/-- ITS FALSE NEIGHBOUR: 'it returns false'. Refute it at one input. -/
def squareParsesWrong : ChangeSpec := { name := "squareParses", fn := fun _ => fun
  | [d1, d2] => { results := [.lit (.bool false)], args := [d1, d2] }
  | _ => none }
def SquareParsesWrongFalsely : Prop := squareParsesRow.holds Tryd.pinned (OpenSpec.ofChange squareParsesWrong)

/-- 'caissalaw01.SquareDistances': WHATEVER THE INPUT: true; the input reads as it did. -/
def squareDistancesSpec : ChangeSpec := { name := "squareDistances", fn := fun _ => fun
  | [d1, d2, d3] => { results := [.lit (.bool true)], args := [d1, d2, d3] }
  | _ => none }
def squareDistancesRow : OpenClaim := { program := "ytjjchodcoeciaaadoor", sum := "691614f78f10e4671a4b0fbaea8cb7d205bd246ee74bffa3a235229e06e3fd5e", func := "caissa/caissalaw01.SquareDistances", spec := "squareDistances", unfollowed := true, recurses := true, named := ["math/bits.deBruijn64tab"], apart := false, laid := [("math/bits.deBruijn64tab", laid_math_bits_deBruijn64tab)] }
def SquareDistancesSaid : Prop := squareDistancesRow.holds Tryd.pinned (OpenSpec.ofChange squareDistancesSpec)

/-- ITS FALSE NEIGHBOUR: 'it returns false'. Refute it at one input. -/
def squareDistancesWrong : ChangeSpec := { name := "squareDistances", fn := fun _ => fun
  | [d1, d2, d3] => { results := [.lit (.bool false)], args := [d1, d2, d3] }
  | _ => none }
def SquareDistancesWrongFalsely : Prop := squareDistancesRow.holds Tryd.pinned (OpenSpec.ofChange squareDistancesWrong)

/-- 'caissalaw01.SquareShifts': WHATEVER THE INPUT: true; the input reads as it did. -/
def squareShiftsSpec : ChangeSpec := { name := "squareShifts", fn := fun _ => fun
  | [d1, d2, d3, d4] => { results := [.lit (.bool true)], args := [d1, d2, d3, d4] }
  | _ => none }
def squareShiftsRow : OpenClaim := { program := "ytjjchodcoeciaaadoor", sum := "691614f78f10e4671a4b0fbaea8cb7d205bd246ee74bffa3a235229e06e3fd5e", func := "caissa/caissalaw01.SquareShifts", spec := "squareShifts", unfollowed := true, recurses := true, named := ["math/bits.deBruijn64tab"], apart := false, laid := [("math/bits.deBruijn64tab", laid_math_bits_deBruijn64tab)] }
def SquareShiftsSaid : Prop := squareShiftsRow.holds Tryd.pinned (OpenSpec.ofChange squareShiftsSpec)

/-- ITS FALSE NEIGHBOUR: 'it returns false'. Refute it at one input. -/
def squareShiftsWrong : ChangeSpec := { name := "squareShifts", fn := fun _ => fun
  | [d1, d2, d3, d4] => { results := [.lit (.bool false)], args := [d1, d2, d3, d4] }
  | _ => none }
def SquareShiftsWrongFalsely : Prop := squareShiftsRow.holds Tryd.pinned (OpenSpec.ofChange squareShiftsWrong)

/-- 'caissalaw01.SquareHolds': WHATEVER THE INPUT: true; the input reads as it did. -/
def squareHoldsSpec : ChangeSpec := { name := "squareHolds", fn := fun _ => fun
  | [d1, d2, d3, d4, d5, d6, d7] => { results := [.lit (.bool true)], args := [d1, d2, d3, d4, d5, d6, d7] }
  | _ => none }
def squareHoldsRow : OpenClaim := { program := "ytjjchodcoeciaaadoor", sum := "691614f78f10e4671a4b0fbaea8cb7d205bd246ee74bffa3a235229e06e3fd5e", func := "caissa/caissalaw01.SquareHolds", spec := "squareHolds", unfollowed := true, recurses := true, named := ["math/bits.deBruijn64tab"], apart := false, laid := [("math/bits.deBruijn64tab", laid_math_bits_deBruijn64tab)] }
def SquareHoldsSaid : Prop := squareHoldsRow.holds Tryd.pinned (OpenSpec.ofChange squareHoldsSpec)

/-- ITS FALSE NEIGHBOUR: 'it returns false'. Refute it at one input. -/
def squareHoldsWrong : ChangeSpec := { name := "squareHolds", fn := fun _ => fun
  | [d1, d2, d3, d4, d5, d6, d7] => { results := [.lit (.bool false)], args := [d1, d2, d3, d4, d5, d6, d7] }
  | _ => none }
def SquareHoldsWrongFalsely : Prop := squareHoldsRow.holds Tryd.pinned (OpenSpec.ofChange squareHoldsWrong)

/-- 'caissalaw01.SquareSets': WHATEVER THE INPUT: true; the input reads as it did. -/
def squareSetsSpec : ChangeSpec := { name := "squareSets", fn := fun _ => fun
  | [d1, d2, d3, d4, d5] => { results := [.lit (.bool true)], args := [d1, d2, d3, d4, d5] }
  | _ => none }
def squareSetsRow : OpenClaim := { program := "ytjjchodcoeciaaadoor", sum := "691614f78f10e4671a4b0fbaea8cb7d205bd246ee74bffa3a235229e06e3fd5e", func := "caissa/caissalaw01.SquareSets", spec := "squareSets", unfollowed := true, recurses := true, named := ["math/bits.deBruijn64tab"], apart := false, laid := [("math/bits.deBruijn64tab", laid_math_bits_deBruijn64tab)] }
def SquareSetsSaid : Prop := squareSetsRow.holds Tryd.pinned (OpenSpec.ofChange squareSetsSpec)

/-- ITS FALSE NEIGHBOUR: 'it returns false'. Refute it at one input. -/
def squareSetsWrong : ChangeSpec := { name := "squareSets", fn := fun _ => fun
  | [d1, d2, d3, d4, d5] => { results := [.lit (.bool false)], args := [d1, d2, d3, d4, d5] }
  | _ => none }
def SquareSetsWrongFalsely : Prop := squareSetsRow.holds Tryd.pinned (OpenSpec.ofChange squareSetsWrong)

/- THE SECOND FORM. 'bulk': how many values and letters a reading holds, each counted each time it is reached (what is shared counts as often as it is met; a slice's spare places count too). A statement '..UptoSaid' is the law's where the arguments, and the package variables that the reading takes, are together of bulk at most 1048576: NARROWER than '..Said'. Prove '..Said' where nothing that the law and all that it calls make is longer than what came in: it says more and counts as full. Else prove '..UptoSaid'. A law counts once. -/
mutual
def uptoBulk {H : Type} : DataW H → Nat
  | .lit (.string bytes) => bytes.length + 1
  | .lit _ => 1
  | .nil => 1
  | .ptr d => uptoBulk d + 1
  | .slice elems spare => uptoBulkAll elems + uptoBulkAll spare + 1
  | .agg parts => uptoBulkAll parts + 1
  | .iface _ d => uptoBulk d + 1
  | .map entries => uptoBulkEntries entries + 1
  | .held _ => 1
def uptoBulkAll {H : Type} : List (DataW H) → Nat
  | [] => 0
  | d :: r => uptoBulk d + uptoBulkAll r
def uptoBulkEntries {H : Type} : List (Lit × DataW H) → Nat
  | [] => 0
  | x :: r => uptoBulkEntry x + uptoBulkEntries r
def uptoBulkEntry {H : Type} : Lit × DataW H → Nat
  | (.string bytes, d) => bytes.length + uptoBulk d + 1
  | (_, d) => uptoBulk d + 1
 end
def uptoSmall : (H : Type) → List (DataW H) → Bool := fun _ ds => decide (uptoBulkAll ds ≤ 1048576)
def OpenSpec.upto (s : _root_.Go.ChangeSpec) : _root_.Go.OpenSpec := { _root_.Go.OpenSpec.ofChange s with cond := some uptoSmall }

/-- 'caissalaw01.SquareSizes', WHERE WHAT IT READS IS OF BULK AT MOST 1048576: true; the input reads as it did. -/
def squareSizesUptoRow : OpenClaim := { program := "ytjjchodcoeciaaadoor", sum := "691614f78f10e4671a4b0fbaea8cb7d205bd246ee74bffa3a235229e06e3fd5e", func := "caissa/caissalaw01.SquareSizes", spec := "squareSizes", unfollowed := true, recurses := true, named := ["math/bits.deBruijn64tab"], apart := false, laid := [("math/bits.deBruijn64tab", laid_math_bits_deBruijn64tab)], narrowed := true }
def SquareSizesUptoSaid : Prop := squareSizesUptoRow.holds Tryd.pinned (OpenSpec.upto squareSizesSpec)

/-- 'caissalaw01.SquarePlaces', WHERE WHAT IT READS IS OF BULK AT MOST 1048576: true; the input reads as it did. -/
def squarePlacesUptoRow : OpenClaim := { program := "ytjjchodcoeciaaadoor", sum := "691614f78f10e4671a4b0fbaea8cb7d205bd246ee74bffa3a235229e06e3fd5e", func := "caissa/caissalaw01.SquarePlaces", spec := "squarePlaces", unfollowed := true, recurses := true, named := ["math/bits.deBruijn64tab"], apart := false, laid := [("math/bits.deBruijn64tab", laid_math_bits_deBruijn64tab)], narrowed := true }
def SquarePlacesUptoSaid : Prop := squarePlacesUptoRow.holds Tryd.pinned (OpenSpec.upto squarePlacesSpec)

/-- 'caissalaw01.SquareParses', WHERE WHAT IT READS IS OF BULK AT MOST 1048576: true; the input reads as it did. -/
def squareParsesUptoRow : OpenClaim := { program := "ytjjchodcoeciaaadoor", sum := "691614f78f10e4671a4b0fbaea8cb7d205bd246ee74bffa3a235229e06e3fd5e", func := "caissa/caissalaw01.SquareParses", spec := "squareParses", unfollowed := true, recurses := true, named := ["math/bits.deBruijn64tab"], apart := false, laid := [("math/bits.deBruijn64tab", laid_math_bits_deBruijn64tab)], narrowed := true }
def SquareParsesUptoSaid : Prop := squareParsesUptoRow.holds Tryd.pinned (OpenSpec.upto squareParsesSpec)

/-- 'caissalaw01.SquareDistances', WHERE WHAT IT READS IS OF BULK AT MOST 1048576: true; the input reads as it did. -/
def squareDistancesUptoRow : OpenClaim := { program := "ytjjchodcoeciaaadoor", sum := "691614f78f10e4671a4b0fbaea8cb7d205bd246ee74bffa3a235229e06e3fd5e", func := "caissa/caissalaw01.SquareDistances", spec := "squareDistances", unfollowed := true, recurses := true, named := ["math/bits.deBruijn64tab"], apart := false, laid := [("math/bits.deBruijn64tab", laid_math_bits_deBruijn64tab)], narrowed := true }
def SquareDistancesUptoSaid : Prop := squareDistancesUptoRow.holds Tryd.pinned (OpenSpec.upto squareDistancesSpec)

/-- 'caissalaw01.SquareShifts', WHERE WHAT IT READS IS OF BULK AT MOST 1048576: true; the input reads as it did. -/
def squareShiftsUptoRow : OpenClaim := { program := "ytjjchodcoeciaaadoor", sum := "691614f78f10e4671a4b0fbaea8cb7d205bd246ee74bffa3a235229e06e3fd5e", func := "caissa/caissalaw01.SquareShifts", spec := "squareShifts", unfollowed := true, recurses := true, named := ["math/bits.deBruijn64tab"], apart := false, laid := [("math/bits.deBruijn64tab", laid_math_bits_deBruijn64tab)], narrowed := true }
def SquareShiftsUptoSaid : Prop := squareShiftsUptoRow.holds Tryd.pinned (OpenSpec.upto squareShiftsSpec)

/-- 'caissalaw01.SquareHolds', WHERE WHAT IT READS IS OF BULK AT MOST 1048576: true; the input reads as it did. -/
def squareHoldsUptoRow : OpenClaim := { program := "ytjjchodcoeciaaadoor", sum := "691614f78f10e4671a4b0fbaea8cb7d205bd246ee74bffa3a235229e06e3fd5e", func := "caissa/caissalaw01.SquareHolds", spec := "squareHolds", unfollowed := true, recurses := true, named := ["math/bits.deBruijn64tab"], apart := false, laid := [("math/bits.deBruijn64tab", laid_math_bits_deBruijn64tab)], narrowed := true }
def SquareHoldsUptoSaid : Prop := squareHoldsUptoRow.holds Tryd.pinned (OpenSpec.upto squareHoldsSpec)

/-- 'caissalaw01.SquareSets', WHERE WHAT IT READS IS OF BULK AT MOST 1048576: true; the input reads as it did. -/
def squareSetsUptoRow : OpenClaim := { program := "ytjjchodcoeciaaadoor", sum := "691614f78f10e4671a4b0fbaea8cb7d205bd246ee74bffa3a235229e06e3fd5e", func := "caissa/caissalaw01.SquareSets", spec := "squareSets", unfollowed := true, recurses := true, named := ["math/bits.deBruijn64tab"], apart := false, laid := [("math/bits.deBruijn64tab", laid_math_bits_deBruijn64tab)], narrowed := true }
def SquareSetsUptoSaid : Prop := squareSetsUptoRow.holds Tryd.pinned (OpenSpec.upto squareSetsSpec)

end Rows
end Go.Proofs.YtjjchodcoeciaaaDoor
