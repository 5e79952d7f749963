/-
  NARROWER THAN 'FOR EVERY INPUT', by the rows' own cells (each row's printed sentence says how): PairingValid: laid · PairingPairs: laid · PairingCosts: laid · PairingValues: laid · PairingProves: laid · PairingHolds: laid.
  DERIVED. THE GIVEN ROWS OF THIS SEAT. 6 by the template 'for every input the law returns true; each argument reads behind the call as it read before'; 0 by the template 'total and deterministic' (their statements: YtjjjdoealagpcaaDoorTotals.lean).
  GIVEN WITH THE SEED: the statements are not yours to turn. If you find one false, say at which input.
  Laid BY PROGRAM, IN A SANDBOX (cutbox-rows.mjs): the forced cells as the released guide's own fill.sh prints them over the translation d186debc9feedd3b… (all of the seat's roots in one cut). By AI agents, Wed Nov 11 2026. No macro, syntax, notation, axiom, sorry.
-/
import Derived.Test.YtjjjdoealagpcaaDoorChecked
import GoSem.Claim
import GoSem.ClaimJoined
import GoSem.ClaimMapViews
import Derived.JoinedTies
import Derived.KernelRfl
namespace Go.Proofs.YtjjjdoealagpcaaDoor
/- THE CELL 'sum', in the pinned program and in every row, IS THE sha256 OF THE DUMP (.gsa) THAT YtjjjdoealagpcaaDoorProg.lean LOADS. Nothing in Lean hashes anything: it is a label: what it is worth is what the hold of that sum in a sandbox is worth. -/
noncomputable def Tryd.pinned : Pinned := { name := "ytjjjdoealagpcaadoor", sum := "d186debc9feedd3be7386ebd78e03129a2137f05722005bc8a34c49feaff66b8", checked := Tryd.checked }
namespace Rows
def none {H : Type} : Left H := { results := [], args := [] }

/- WHAT THE LISTED PACKAGE-LEVEL VARIABLES READ AS WHEN THE CALL BEGINS. Each datum BY PROGRAM (the guide's laid-datum.mjs) off the statement by which the dump's own 'gosem.cut.vars' lays the variable. In a bare row this is a premise. The card (YtjjjdoealagpcaaDoorCards.lean) ties it to the program's text. -/
def laid_math_bits_deBruijn32tab {H : Type} : DataW H := .agg [.lit (.int .u8 0), .lit (.int .u8 1), .lit (.int .u8 28), .lit (.int .u8 2), .lit (.int .u8 29), .lit (.int .u8 14), .lit (.int .u8 24), .lit (.int .u8 3), .lit (.int .u8 30), .lit (.int .u8 22), .lit (.int .u8 20), .lit (.int .u8 15), .lit (.int .u8 25), .lit (.int .u8 17), .lit (.int .u8 4), .lit (.int .u8 8), .lit (.int .u8 31), .lit (.int .u8 27), .lit (.int .u8 13), .lit (.int .u8 23), .lit (.int .u8 21), .lit (.int .u8 19), .lit (.int .u8 16), .lit (.int .u8 7), .lit (.int .u8 26), .lit (.int .u8 12), .lit (.int .u8 18), .lit (.int .u8 6), .lit (.int .u8 11), .lit (.int .u8 5), .lit (.int .u8 10), .lit (.int .u8 9)]
def laid_math_bits_deBruijn64tab {H : Type} : DataW H := .agg [.lit (.int .u8 0), .lit (.int .u8 1), .lit (.int .u8 56), .lit (.int .u8 2), .lit (.int .u8 57), .lit (.int .u8 49), .lit (.int .u8 28), .lit (.int .u8 3), .lit (.int .u8 61), .lit (.int .u8 58), .lit (.int .u8 42), .lit (.int .u8 50), .lit (.int .u8 38), .lit (.int .u8 29), .lit (.int .u8 17), .lit (.int .u8 4), .lit (.int .u8 62), .lit (.int .u8 47), .lit (.int .u8 59), .lit (.int .u8 36), .lit (.int .u8 45), .lit (.int .u8 43), .lit (.int .u8 51), .lit (.int .u8 22), .lit (.int .u8 53), .lit (.int .u8 39), .lit (.int .u8 33), .lit (.int .u8 30), .lit (.int .u8 24), .lit (.int .u8 18), .lit (.int .u8 12), .lit (.int .u8 5), .lit (.int .u8 63), .lit (.int .u8 55), .lit (.int .u8 48), .lit (.int .u8 27), .lit (.int .u8 60), .lit (.int .u8 41), .lit (.int .u8 37), .lit (.int .u8 16), .lit (.int .u8 46), .lit (.int .u8 35), .lit (.int .u8 44), .lit (.int .u8 21), .lit (.int .u8 52), .lit (.int .u8 32), .lit (.int .u8 23), .lit (.int .u8 11), .lit (.int .u8 54), .lit (.int .u8 26), .lit (.int .u8 40), .lit (.int .u8 15), .lit (.int .u8 34), .lit (.int .u8 20), .lit (.int .u8 31), .lit (.int .u8 10), .lit (.int .u8 25), .lit (.int .u8 14), .lit (.int .u8 19), .lit (.int .u8 9), .lit (.int .u8 13), .lit (.int .u8 8), .lit (.int .u8 7), .lit (.int .u8 6)]

/-- 'caissalaw43.PairingValid': WHATEVER THE INPUT: true; the input reads as it did. -/
def pairingValidSpec : ChangeSpec := { name := "pairingValid", fn := fun _ => fun
  | [d] => { results := [.lit (.bool true)], args := [d] }
  | _ => none }
def pairingValidRow : OpenClaim := { program := "ytjjjdoealagpcaadoor", sum := "d186debc9feedd3be7386ebd78e03129a2137f05722005bc8a34c49feaff66b8", func := "caissa/caissalaw43.PairingValid", spec := "pairingValid", unfollowed := true, recurses := true, named := ["math/bits.deBruijn32tab", "math/bits.deBruijn64tab"], plainKeys := false, apart := false, laid := [("math/bits.deBruijn32tab", laid_math_bits_deBruijn32tab), ("math/bits.deBruijn64tab", laid_math_bits_deBruijn64tab)] }
def PairingValidSaid : Prop := pairingValidRow.holds Tryd.pinned (OpenSpec.ofChange pairingValidSpec)

/-- ITS FALSE NEIGHBOUR: 'it returns false'. Refute it at one input. -/
def pairingValidWrong : ChangeSpec := { name := "pairingValid", fn := fun _ => fun
  | [d] => { results := [.lit (.bool false)], args := [d] }
  | _ => none }
def PairingValidWrongFalsely : Prop := pairingValidRow.holds Tryd.pinned (OpenSpec.ofChange pairingValidWrong)

/-- 'caissalaw43.PairingPairs': WHATEVER THE INPUT: true; the input reads as it did. -/
def pairingPairsSpec : ChangeSpec := { name := "pairingPairs", fn := fun _ => fun
  | [d] => { results := [.lit (.bool true)], args := [d] }
  | _ => none }
def pairingPairsRow : OpenClaim := { program := "ytjjjdoealagpcaadoor", sum := "d186debc9feedd3be7386ebd78e03129a2137f05722005bc8a34c49feaff66b8", func := "caissa/caissalaw43.PairingPairs", spec := "pairingPairs", unfollowed := true, recurses := true, named := ["math/bits.deBruijn32tab", "math/bits.deBruijn64tab"], plainKeys := false, apart := false, laid := [("math/bits.deBruijn32tab", laid_math_bits_deBruijn32tab), ("math/bits.deBruijn64tab", laid_math_bits_deBruijn64tab)] }
def PairingPairsSaid : Prop := pairingPairsRow.holds Tryd.pinned (OpenSpec.ofChange pairingPairsSpec)

/-- ITS FALSE NEIGHBOUR: 'it returns false'. Refute it at one input. -/
def pairingPairsWrong : ChangeSpec := { name := "pairingPairs", fn := fun _ => fun
  | [d] => { results := [.lit (.bool false)], args := [d] }
  | _ => none }
def PairingPairsWrongFalsely : Prop := pairingPairsRow.holds Tryd.pinned (OpenSpec.ofChange pairingPairsWrong)

/-- 'caissalaw43.PairingCosts': WHATEVER THE INPUT: true; the input reads as it did. -/
def pairingCostsSpec : ChangeSpec := { name := "pairingCosts", fn := fun _ => fun
  | [d1, d2, d3] => { results := [.lit (.bool true)], args := [d1, d2, d3] }
  | _ => none }
def pairingCostsRow : OpenClaim := { program := "ytjjjdoealagpcaadoor", sum := "d186debc9feedd3be7386ebd78e03129a2137f05722005bc8a34c49feaff66b8", func := "caissa/caissalaw43.PairingCosts", spec := "pairingCosts", unfollowed := true, recurses := true, named := ["math/bits.deBruijn32tab", "math/bits.deBruijn64tab"], plainKeys := false, apart := false, laid := [("math/bits.deBruijn32tab", laid_math_bits_deBruijn32tab), ("math/bits.deBruijn64tab", laid_math_bits_deBruijn64tab)] }
def PairingCostsSaid : Prop := pairingCostsRow.holds Tryd.pinned (OpenSpec.ofChange pairingCostsSpec)

/-- ITS FALSE NEIGHBOUR: 'it returns false'. Refute it at one input. -/
def pairingCostsWrong : ChangeSpec := { name := "pairingCosts", fn := fun _ => fun
  | [d1, d2, d3] => { results := [.lit (.bool false)], args := [d1, d2, d3] }
  | _ => none }
def PairingCostsWrongFalsely : Prop := pairingCostsRow.holds Tryd.pinned (OpenSpec.ofChange pairingCostsWrong)

/-- 'caissalaw43.PairingValues': WHATEVER THE INPUT: true; the input reads as it did. -/
def pairingValuesSpec : ChangeSpec := { name := "pairingValues", fn := fun _ => fun
  | [d1, d2] => { results := [.lit (.bool true)], args := [d1, d2] }
  | _ => none }
def pairingValuesRow : OpenClaim := { program := "ytjjjdoealagpcaadoor", sum := "d186debc9feedd3be7386ebd78e03129a2137f05722005bc8a34c49feaff66b8", func := "caissa/caissalaw43.PairingValues", spec := "pairingValues", unfollowed := true, recurses := true, named := ["math/bits.deBruijn32tab", "math/bits.deBruijn64tab"], plainKeys := false, apart := false, laid := [("math/bits.deBruijn32tab", laid_math_bits_deBruijn32tab), ("math/bits.deBruijn64tab", laid_math_bits_deBruijn64tab)] }
def PairingValuesSaid : Prop := pairingValuesRow.holds Tryd.pinned (OpenSpec.ofChange pairingValuesSpec)

/-- ITS FALSE NEIGHBOUR: 'it returns false'. Refute it at one input. -/
def pairingValuesWrong : ChangeSpec := { name := "pairingValues", fn := fun _ => fun
  | [d1, d2] => { results := [.lit (.bool false)], args := [d1, d2] }
  | _ => none }
def PairingValuesWrongFalsely : Prop := pairingValuesRow.holds Tryd.pinned (OpenSpec.ofChange pairingValuesWrong)

/-- 'caissalaw43.PairingProves': WHATEVER THE INPUT: true; the input reads as it did. -/
def pairingProvesSpec : ChangeSpec := { name := "pairingProves", fn := fun _ => fun
  | [d1, d2, d3, d4] => { results := [.lit (.bool true)], args := [d1, d2, d3, d4] }
  | _ => none }
def pairingProvesRow : OpenClaim := { program := "ytjjjdoealagpcaadoor", sum := "d186debc9feedd3be7386ebd78e03129a2137f05722005bc8a34c49feaff66b8", func := "caissa/caissalaw43.PairingProves", spec := "pairingProves", unfollowed := true, recurses := true, named := ["math/bits.deBruijn32tab", "math/bits.deBruijn64tab"], plainKeys := false, apart := false, laid := [("math/bits.deBruijn32tab", laid_math_bits_deBruijn32tab), ("math/bits.deBruijn64tab", laid_math_bits_deBruijn64tab)] }
def PairingProvesSaid : Prop := pairingProvesRow.holds Tryd.pinned (OpenSpec.ofChange pairingProvesSpec)

/-- ITS FALSE NEIGHBOUR: 'it returns false'. Refute it at one input. -/
def pairingProvesWrong : ChangeSpec := { name := "pairingProves", fn := fun _ => fun
  | [d1, d2, d3, d4] => { results := [.lit (.bool false)], args := [d1, d2, d3, d4] }
  | _ => none }
def PairingProvesWrongFalsely : Prop := pairingProvesRow.holds Tryd.pinned (OpenSpec.ofChange pairingProvesWrong)

/-- 'caissalaw43.PairingHolds': WHATEVER THE INPUT: true; the input reads as it did. -/
def pairingHoldsSpec : ChangeSpec := { name := "pairingHolds", fn := fun _ => fun
  | [d1, d2, d3, d4] => { results := [.lit (.bool true)], args := [d1, d2, d3, d4] }
  | _ => none }
def pairingHoldsRow : OpenClaim := { program := "ytjjjdoealagpcaadoor", sum := "d186debc9feedd3be7386ebd78e03129a2137f05722005bc8a34c49feaff66b8", func := "caissa/caissalaw43.PairingHolds", spec := "pairingHolds", unfollowed := true, recurses := true, named := ["math/bits.deBruijn32tab", "math/bits.deBruijn64tab"], plainKeys := false, apart := false, laid := [("math/bits.deBruijn32tab", laid_math_bits_deBruijn32tab), ("math/bits.deBruijn64tab", laid_math_bits_deBruijn64tab)] }
def PairingHoldsSaid : Prop := pairingHoldsRow.holds Tryd.pinned (OpenSpec.ofChange pairingHoldsSpec)

/-- ITS FALSE NEIGHBOUR: 'it returns false'. Refute it at one input. -/
def pairingHoldsWrong : ChangeSpec := { name := "pairingHolds", fn := fun _ => fun
  | [d1, d2, d3, d4] => { results := [.lit (.bool false)], args := [d1, d2, d3, d4] }
  | _ => none }
def PairingHoldsWrongFalsely : Prop := pairingHoldsRow.holds Tryd.pinned (OpenSpec.ofChange pairingHoldsWrong)

/- THE SECOND FORM. 'bulk': how many values and letters a reading holds, each counted each time it is reached (what is shared counts as often as it is met; a slice's spare places count too). A statement '..UptoSaid' is the law's where the arguments, and the package variables that the reading takes, are together of bulk at most 1048576: NARROWER than '..Said'. Prove '..Said' where nothing that the law and all that it calls make is longer than what came in: it says more and counts as full. Else prove '..UptoSaid'. A law counts once. -/
mutual
def uptoBulk {H : Type} : DataW H → Nat
  | .lit (.string bytes) => bytes.length + 1
  | .lit _ => 1
  | .nil => 1
  | .ptr d => uptoBulk d + 1
  | .slice elems spare => uptoBulkAll elems + uptoBulkAll spare + 1
  | .agg parts => uptoBulkAll parts + 1
  | .iface _ d => uptoBulk d + 1
  | .map entries => uptoBulkEntries entries + 1
  | .held _ => 1
def uptoBulkAll {H : Type} : List (DataW H) → Nat
  | [] => 0
  | d :: r => uptoBulk d + uptoBulkAll r
def uptoBulkEntries {H : Type} : List (Lit × DataW H) → Nat
  | [] => 0
  | x :: r => uptoBulkEntry x + uptoBulkEntries r
def uptoBulkEntry {H : Type} : Lit × DataW H → Nat
  | (.string bytes, d) => bytes.length + uptoBulk d + 1
  | (_, d) => uptoBulk d + 1
 end
def uptoSmall : (H : Type) → List (DataW H) → Bool := fun _ ds => decide (uptoBulkAll ds ≤ 1048576)
def OpenSpec.upto (s : _root_.Go.ChangeSpec) : _root_.Go.OpenSpec := { _root_.Go.OpenSpec.ofChange s with cond := some uptoSmall }

/-- 'caissalaw43.PairingValid', WHERE WHAT IT READS IS OF BULK AT MOST 1048576: true; the input reads as it did. -/
def pairingValidUptoRow : OpenClaim := { program := "ytjjjdoealagpcaadoor", sum := "d186debc9feedd3be7386ebd78e03129a2137f05722005bc8a34c49feaff66b8", func := "caissa/caissalaw43.PairingValid", spec := "pairingValid", unfollowed := true, recurses := true, named := ["math/bits.deBruijn32tab", "math/bits.deBruijn64tab"], plainKeys := false, apart := false, laid := [("math/bits.deBruijn32tab", laid_math_bits_deBruijn32tab), ("math/bits.deBruijn64tab", laid_math_bits_deBruijn64tab)], narrowed := true }
def PairingValidUptoSaid : Prop := pairingValidUptoRow.holds Tryd.pinned (OpenSpec.upto pairingValidSpec)

/-- 'caissalaw43.PairingPairs', WHERE WHAT IT READS IS OF BULK AT MOST 1048576: true; the input reads as it did. -/
def pairingPairsUptoRow : OpenClaim := { program := "ytjjjdoealagpcaadoor", sum := "d186debc9feedd3be7386ebd78e03129a2137f05722005bc8a34c49feaff66b8", func := "caissa/caissalaw43.PairingPairs", spec := "pairingPairs", unfollowed := true, recurses := true, named := ["math/bits.deBruijn32tab", "math/bits.deBruijn64tab"], plainKeys := false, apart := false, laid := [("math/bits.deBruijn32tab", laid_math_bits_deBruijn32tab), ("math/bits.deBruijn64tab", laid_math_bits_deBruijn64tab)], narrowed := true }
def PairingPairsUptoSaid : Prop := pairingPairsUptoRow.holds Tryd.pinned (OpenSpec.upto pairingPairsSpec)

/-- 'caissalaw43.PairingCosts', WHERE WHAT IT READS IS OF BULK AT MOST 1048576: true; the input reads as it did. -/
def pairingCostsUptoRow : OpenClaim := { program := "ytjjjdoealagpcaadoor", sum := "d186debc9feedd3be7386ebd78e03129a2137f05722005bc8a34c49feaff66b8", func := "caissa/caissalaw43.PairingCosts", spec := "pairingCosts", unfollowed := true, recurses := true, named := ["math/bits.deBruijn32tab", "math/bits.deBruijn64tab"], plainKeys := false, apart := false, laid := [("math/bits.deBruijn32tab", laid_math_bits_deBruijn32tab), ("math/bits.deBruijn64tab", laid_math_bits_deBruijn64tab)], narrowed := true }
def PairingCostsUptoSaid : Prop := pairingCostsUptoRow.holds Tryd.pinned (OpenSpec.upto pairingCostsSpec)

/-- 'caissalaw43.PairingValues', WHERE WHAT IT READS IS OF BULK AT MOST 1048576: true; the input reads as it did. -/
def pairingValuesUptoRow : OpenClaim := { program := "ytjjjdoealagpcaadoor", sum := "d186debc9feedd3be7386ebd78e03129a2137f05722005bc8a34c49feaff66b8", func := "caissa/caissalaw43.PairingValues", spec := "pairingValues", unfollowed := true, recurses := true, named := ["math/bits.deBruijn32tab", "math/bits.deBruijn64tab"], plainKeys := false, apart := false, laid := [("math/bits.deBruijn32tab", laid_math_bits_deBruijn32tab), ("math/bits.deBruijn64tab", laid_math_bits_deBruijn64tab)], narrowed := true }
def PairingValuesUptoSaid : Prop := pairingValuesUptoRow.holds Tryd.pinned (OpenSpec.upto pairingValuesSpec)

/-- 'caissalaw43.PairingProves', WHERE WHAT IT READS IS OF BULK AT MOST 1048576: true; the input reads as it did. -/
def pairingProvesUptoRow : OpenClaim := { program := "ytjjjdoealagpcaadoor", sum := "d186debc9feedd3be7386ebd78e03129a2137f05722005bc8a34c49feaff66b8", func := "caissa/caissalaw43.PairingProves", spec := "pairingProves", unfollowed := true, recurses := true, named := ["math/bits.deBruijn32tab", "math/bits.deBruijn64tab"], plainKeys := false, apart := false, laid := [("math/bits.deBruijn32tab", laid_math_bits_deBruijn32tab), ("math/bits.deBruijn64tab", laid_math_bits_deBruijn64tab)], narrowed := true }
def PairingProvesUptoSaid : Prop := pairingProvesUptoRow.holds Tryd.pinned (OpenSpec.upto pairingProvesSpec)

/-- 'caissalaw43.PairingHolds', WHERE WHAT IT READS IS OF BULK AT MOST 1048576: true; the input reads as it did. -/
def pairingHoldsUptoRow : OpenClaim := { program := "ytjjjdoealagpcaadoor", sum := "d186debc9feedd3be7386ebd78e03129a2137f05722005bc8a34c49feaff66b8", func := "caissa/caissalaw43.PairingHolds", spec := "pairingHolds", unfollowed := true, recurses := true, named := ["math/bits.deBruijn32tab", "math/bits.deBruijn64tab"], plainKeys := false, apart := false, laid := [("math/bits.deBruijn32tab", laid_math_bits_deBruijn32tab), ("math/bits.deBruijn64tab", laid_math_bits_deBruijn64tab)], narrowed := true }
def PairingHoldsUptoSaid : Prop := pairingHoldsUptoRow.holds Tryd.pinned (OpenSpec.upto pairingHoldsSpec)

end Rows
end Go.Proofs.YtjjjdoealagpcaaDoor
