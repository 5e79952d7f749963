/-
  NARROWER THAN 'FOR EVERY INPUT', by the rows' own cells (each row's printed sentence says how): PieceValid: laid · PieceMakes: laid · PieceLetters: laid · PieceNames: laid · PieceHolds: laid.
  DERIVED. THE GIVEN ROWS OF THIS SEAT. 5 by the template 'for every input the law returns true; each argument reads behind the call as it read before'; 0 by the template 'total and deterministic' (their statements: YtmlbaghbdhogpaaDoorTotals.lean).
  GIVEN WITH THE SEED: the statements are not yours to turn. If you find one false, say at which input.
  Laid BY PROGRAM, IN A SANDBOX (cutbox-rows.mjs): the forced cells as the released guide's own fill.sh prints them over the translation c1f271908e154c4a… (all of the seat's roots in one cut). By AI agents, Wed Nov 11 2026. No macro, syntax, notation, axiom, sorry.
-/
import Derived.Test.YtmlbaghbdhogpaaDoorChecked
import GoSem.Claim
import GoSem.ClaimJoined
import GoSem.ClaimMapViews
import Derived.JoinedTies
import Derived.KernelRfl
namespace Go.Proofs.YtmlbaghbdhogpaaDoor
/- THE CELL 'sum', in the pinned program and in every row, IS THE sha256 OF THE DUMP (.gsa) THAT YtmlbaghbdhogpaaDoorProg.lean LOADS. Nothing in Lean hashes anything: it is a label: what it is worth is what the hold of that sum in a sandbox is worth. -/
noncomputable def Tryd.pinned : Pinned := { name := "ytmlbaghbdhogpaadoor", sum := "c1f271908e154c4abe019cca5cddc43dbf936a5ff45331f76c998eb071f4f015", checked := Tryd.checked }
namespace Rows
def none {H : Type} : Left H := { results := [], args := [] }

/- WHAT THE LISTED PACKAGE-LEVEL VARIABLES READ AS WHEN THE CALL BEGINS. Each datum BY PROGRAM (the guide's laid-datum.mjs) off the statement by which the dump's own 'gosem.cut.vars' lays the variable. In a bare row this is a premise. The card (YtmlbaghbdhogpaaDoorCards.lean) ties it to the program's text. -/
def laid_caissa_piece_kinds {H : Type} : DataW H := .agg [.agg [.lit (.int .u8 80), .lit (.int .i64 1), .lit (.string [112, 97, 119, 110])], .agg [.lit (.int .u8 78), .lit (.int .i64 3), .lit (.string [107, 110, 105, 103, 104, 116])], .agg [.lit (.int .u8 66), .lit (.int .i64 3), .lit (.string [98, 105, 115, 104, 111, 112])], .agg [.lit (.int .u8 82), .lit (.int .i64 5), .lit (.string [114, 111, 111, 107])], .agg [.lit (.int .u8 81), .lit (.int .i64 9), .lit (.string [113, 117, 101, 101, 110])], .agg [.lit (.int .u8 75), .lit (.int .i64 0), .lit (.string [107, 105, 110, 103])], .agg [.lit (.int .u8 65), .lit (.int .i64 0), .lit (.string [102, 97, 105, 114, 121, 45, 97])], .agg [.lit (.int .u8 67), .lit (.int .i64 0), .lit (.string [102, 97, 105, 114, 121, 45, 99])], .agg [.lit (.int .u8 68), .lit (.int .i64 0), .lit (.string [102, 97, 105, 114, 121, 45, 100])], .agg [.lit (.int .u8 69), .lit (.int .i64 0), .lit (.string [102, 97, 105, 114, 121, 45, 101])], .agg [.lit (.int .u8 70), .lit (.int .i64 0), .lit (.string [102, 97, 105, 114, 121, 45, 102])], .agg [.lit (.int .u8 71), .lit (.int .i64 0), .lit (.string [102, 97, 105, 114, 121, 45, 103])], .agg [.lit (.int .u8 72), .lit (.int .i64 0), .lit (.string [102, 97, 105, 114, 121, 45, 104])], .agg [.lit (.int .u8 73), .lit (.int .i64 0), .lit (.string [102, 97, 105, 114, 121, 45, 105])], .agg [.lit (.int .u8 74), .lit (.int .i64 0), .lit (.string [102, 97, 105, 114, 121, 45, 106])]]

/-- 'caissalaw02.PieceValid': WHATEVER THE INPUT: true; the input reads as it did. -/
def pieceValidSpec : ChangeSpec := { name := "pieceValid", fn := fun _ => fun
  | [d] => { results := [.lit (.bool true)], args := [d] }
  | _ => none }
def pieceValidRow : OpenClaim := { program := "ytmlbaghbdhogpaadoor", sum := "c1f271908e154c4abe019cca5cddc43dbf936a5ff45331f76c998eb071f4f015", func := "caissa/caissalaw02.PieceValid", spec := "pieceValid", named := ["caissa/piece.kinds"], apart := false, laid := [("caissa/piece.kinds", laid_caissa_piece_kinds)] }
def PieceValidSaid : Prop := pieceValidRow.holds Tryd.pinned (OpenSpec.ofChange pieceValidSpec)

/-- ITS FALSE NEIGHBOUR: 'it returns false'. Refute it at one input. -/
def pieceValidWrong : ChangeSpec := { name := "pieceValid", fn := fun _ => fun
  | [d] => { results := [.lit (.bool false)], args := [d] }
  | _ => none }
def PieceValidWrongFalsely : Prop := pieceValidRow.holds Tryd.pinned (OpenSpec.ofChange pieceValidWrong)

/-- 'caissalaw02.PieceMakes': WHATEVER THE INPUT: true; the input reads as it did. -/
def pieceMakesSpec : ChangeSpec := { name := "pieceMakes", fn := fun _ => fun
  | [d1, d2] => { results := [.lit (.bool true)], args := [d1, d2] }
  | _ => none }
def pieceMakesRow : OpenClaim := { program := "ytmlbaghbdhogpaadoor", sum := "c1f271908e154c4abe019cca5cddc43dbf936a5ff45331f76c998eb071f4f015", func := "caissa/caissalaw02.PieceMakes", spec := "pieceMakes", named := ["caissa/piece.kinds"], apart := false, laid := [("caissa/piece.kinds", laid_caissa_piece_kinds)] }
def PieceMakesSaid : Prop := pieceMakesRow.holds Tryd.pinned (OpenSpec.ofChange pieceMakesSpec)

/-- ITS FALSE NEIGHBOUR: 'it returns false'. Refute it at one input. -/
def pieceMakesWrong : ChangeSpec := { name := "pieceMakes", fn := fun _ => fun
  | [d1, d2] => { results := [.lit (.bool false)], args := [d1, d2] }
  | _ => none }
def PieceMakesWrongFalsely : Prop := pieceMakesRow.holds Tryd.pinned (OpenSpec.ofChange pieceMakesWrong)

/-- 'caissalaw02.PieceLetters': WHATEVER THE INPUT: true; the input reads as it did. -/
def pieceLettersSpec : ChangeSpec := { name := "pieceLetters", fn := fun _ => fun
  | [d1, d2] => { results := [.lit (.bool true)], args := [d1, d2] }
  | _ => none }
def pieceLettersRow : OpenClaim := { program := "ytmlbaghbdhogpaadoor", sum := "c1f271908e154c4abe019cca5cddc43dbf936a5ff45331f76c998eb071f4f015", func := "caissa/caissalaw02.PieceLetters", spec := "pieceLetters", named := ["caissa/piece.kinds"], apart := false, laid := [("caissa/piece.kinds", laid_caissa_piece_kinds)] }
def PieceLettersSaid : Prop := pieceLettersRow.holds Tryd.pinned (OpenSpec.ofChange pieceLettersSpec)

/-- ITS FALSE NEIGHBOUR: 'it returns false'. Refute it at one input. -/
def pieceLettersWrong : ChangeSpec := { name := "pieceLetters", fn := fun _ => fun
  | [d1, d2] => { results := [.lit (.bool false)], args := [d1, d2] }
  | _ => none }
def PieceLettersWrongFalsely : Prop := pieceLettersRow.holds Tryd.pinned (OpenSpec.ofChange pieceLettersWrong)

/-- 'caissalaw02.PieceNames': WHATEVER THE INPUT: true; the input reads as it did. -/
def pieceNamesSpec : ChangeSpec := { name := "pieceNames", fn := fun _ => fun
  | [d] => { results := [.lit (.bool true)], args := [d] }
  | _ => none }
def pieceNamesRow : OpenClaim := { program := "ytmlbaghbdhogpaadoor", sum := "c1f271908e154c4abe019cca5cddc43dbf936a5ff45331f76c998eb071f4f015", func := "caissa/caissalaw02.PieceNames", spec := "pieceNames", named := ["caissa/piece.kinds"], apart := false, laid := [("caissa/piece.kinds", laid_caissa_piece_kinds)] }
def PieceNamesSaid : Prop := pieceNamesRow.holds Tryd.pinned (OpenSpec.ofChange pieceNamesSpec)

/-- ITS FALSE NEIGHBOUR: 'it returns false'. Refute it at one input. -/
def pieceNamesWrong : ChangeSpec := { name := "pieceNames", fn := fun _ => fun
  | [d] => { results := [.lit (.bool false)], args := [d] }
  | _ => none }
def PieceNamesWrongFalsely : Prop := pieceNamesRow.holds Tryd.pinned (OpenSpec.ofChange pieceNamesWrong)

/-- 'caissalaw02.PieceHolds': WHATEVER THE INPUT: true; the input reads as it did. -/
def pieceHoldsSpec : ChangeSpec := { name := "pieceHolds", fn := fun _ => fun
  | [d] => { results := [.lit (.bool true)], args := [d] }
  | _ => none }
def pieceHoldsRow : OpenClaim := { program := "ytmlbaghbdhogpaadoor", sum := "c1f271908e154c4abe019cca5cddc43dbf936a5ff45331f76c998eb071f4f015", func := "caissa/caissalaw02.PieceHolds", spec := "pieceHolds", named := ["caissa/piece.kinds"], apart := false, laid := [("caissa/piece.kinds", laid_caissa_piece_kinds)] }
def PieceHoldsSaid : Prop := pieceHoldsRow.holds Tryd.pinned (OpenSpec.ofChange pieceHoldsSpec)

/-- ITS FALSE NEIGHBOUR: 'it returns false'. Refute it at one input. -/
def pieceHoldsWrong : ChangeSpec := { name := "pieceHolds", fn := fun _ => fun
  | [d] => { results := [.lit (.bool false)], args := [d] }
  | _ => none }
def PieceHoldsWrongFalsely : Prop := pieceHoldsRow.holds Tryd.pinned (OpenSpec.ofChange pieceHoldsWrong)

/- THE SECOND FORM. 'bulk': how many values and letters a reading holds, each counted each time it is reached (what is shared counts as often as it is met; a slice's spare places count too). A statement '..UptoSaid' is the law's where the arguments, and the package variables that the reading takes, are together of bulk at most 1048576: NARROWER than '..Said'. Prove '..Said' where nothing that the law and all that it calls make is longer than what came in: it says more and counts as full. Else prove '..UptoSaid'. A law counts once. -/
mutual
def uptoBulk {H : Type} : DataW H → Nat
  | .lit (.string bytes) => bytes.length + 1
  | .lit _ => 1
  | .nil => 1
  | .ptr d => uptoBulk d + 1
  | .slice elems spare => uptoBulkAll elems + uptoBulkAll spare + 1
  | .agg parts => uptoBulkAll parts + 1
  | .iface _ d => uptoBulk d + 1
  | .map entries => uptoBulkEntries entries + 1
  | .held _ => 1
def uptoBulkAll {H : Type} : List (DataW H) → Nat
  | [] => 0
  | d :: r => uptoBulk d + uptoBulkAll r
def uptoBulkEntries {H : Type} : List (Lit × DataW H) → Nat
  | [] => 0
  | x :: r => uptoBulkEntry x + uptoBulkEntries r
def uptoBulkEntry {H : Type} : Lit × DataW H → Nat
  | (.string bytes, d) => bytes.length + uptoBulk d + 1
  | (_, d) => uptoBulk d + 1
 end
def uptoSmall : (H : Type) → List (DataW H) → Bool := fun _ ds => decide (uptoBulkAll ds ≤ 1048576)
def OpenSpec.upto (s : _root_.Go.ChangeSpec) : _root_.Go.OpenSpec := { _root_.Go.OpenSpec.ofChange s with cond := some uptoSmall }

/-- 'caissalaw02.PieceValid', WHERE WHAT IT READS IS OF BULK AT MOST 1048576: true; the input reads as it did. -/
def pieceValidUptoRow : OpenClaim := { program := "ytmlbaghbdhogpaadoor", sum := "c1f271908e154c4abe019cca5cddc43dbf936a5ff45331f76c998eb071f4f015", func := "caissa/caissalaw02.PieceValid", spec := "pieceValid", named := ["caissa/piece.kinds"], apart := false, laid := [("caissa/piece.kinds", laid_caissa_piece_kinds)], narrowed := true }
def PieceValidUptoSaid : Prop := pieceValidUptoRow.holds Tryd.pinned (OpenSpec.upto pieceValidSpec)

/-- 'caissalaw02.PieceMakes', WHERE WHAT IT READS IS OF BULK AT MOST 1048576: true; the input reads as it did. -/
def pieceMakesUptoRow : OpenClaim := { program := "ytmlbaghbdhogpaadoor", sum := "c1f271908e154c4abe019cca5cddc43dbf936a5ff45331f76c998eb071f4f015", func := "caissa/caissalaw02.PieceMakes", spec := "pieceMakes", named := ["caissa/piece.kinds"], apart := false, laid := [("caissa/piece.kinds", laid_caissa_piece_kinds)], narrowed := true }
def PieceMakesUptoSaid : Prop := pieceMakesUptoRow.holds Tryd.pinned (OpenSpec.upto pieceMakesSpec)

/-- 'caissalaw02.PieceLetters', WHERE WHAT IT READS IS OF BULK AT MOST 1048576: true; the input reads as it did. -/
def pieceLettersUptoRow : OpenClaim := { program := "ytmlbaghbdhogpaadoor", sum := "c1f271908e154c4abe019cca5cddc43dbf936a5ff45331f76c998eb071f4f015", func := "caissa/caissalaw02.PieceLetters", spec := "pieceLetters", named := ["caissa/piece.kinds"], apart := false, laid := [("caissa/piece.kinds", laid_caissa_piece_kinds)], narrowed := true }
def PieceLettersUptoSaid : Prop := pieceLettersUptoRow.holds Tryd.pinned (OpenSpec.upto pieceLettersSpec)

/-- 'caissalaw02.PieceNames', WHERE WHAT IT READS IS OF BULK AT MOST 1048576: true; the input reads as it did. -/
def pieceNamesUptoRow : OpenClaim := { program := "ytmlbaghbdhogpaadoor", sum := "c1f271908e154c4abe019cca5cddc43dbf936a5ff45331f76c998eb071f4f015", func := "caissa/caissalaw02.PieceNames", spec := "pieceNames", named := ["caissa/piece.kinds"], apart := false, laid := [("caissa/piece.kinds", laid_caissa_piece_kinds)], narrowed := true }
def PieceNamesUptoSaid : Prop := pieceNamesUptoRow.holds Tryd.pinned (OpenSpec.upto pieceNamesSpec)

/-- 'caissalaw02.PieceHolds', WHERE WHAT IT READS IS OF BULK AT MOST 1048576: true; the input reads as it did. -/
def pieceHoldsUptoRow : OpenClaim := { program := "ytmlbaghbdhogpaadoor", sum := "c1f271908e154c4abe019cca5cddc43dbf936a5ff45331f76c998eb071f4f015", func := "caissa/caissalaw02.PieceHolds", spec := "pieceHolds", named := ["caissa/piece.kinds"], apart := false, laid := [("caissa/piece.kinds", laid_caissa_piece_kinds)], narrowed := true }
def PieceHoldsUptoSaid : Prop := pieceHoldsUptoRow.holds Tryd.pinned (OpenSpec.upto pieceHoldsSpec)

end Rows
end Go.Proofs.YtmlbaghbdhogpaaDoor
