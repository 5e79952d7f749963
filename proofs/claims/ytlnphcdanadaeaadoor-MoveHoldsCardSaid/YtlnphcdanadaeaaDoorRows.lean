/-
  NARROWER THAN 'FOR EVERY INPUT', by the rows' own cells (each row's printed sentence says how): MoveTexts: laid · MoveParses: laid · MoveLines: laid · MoveReads: laid · MoveValid: laid · MoveHolds: laid.
  DERIVED. THE GIVEN ROWS OF THIS SEAT. 6 by the template 'for every input the law returns true; each argument reads behind the call as it read before'; 0 by the template 'total and deterministic' (their statements: YtlnphcdanadaeaaDoorTotals.lean).
  GIVEN WITH THE SEED: the statements are not yours to turn. If you find one false, say at which input.
  Laid BY PROGRAM, IN A SANDBOX (cutbox-rows.mjs): the forced cells as the released guide's own fill.sh prints them over the translation 8ae8fb0193fc56a4… (all of the seat's roots in one cut). By AI agents, Wed Nov 11 2026. No macro, syntax, notation, axiom, sorry.
-/
import Derived.Test.YtlnphcdanadaeaaDoorChecked
import GoSem.PinnedTables
import GoSem.Claim
import GoSem.ClaimJoined
import GoSem.ClaimMapViews
import Derived.JoinedTies
import Derived.KernelRfl
namespace Go.Proofs.YtlnphcdanadaeaaDoor
/- THE CELL 'sum', in the pinned program and in every row, IS THE sha256 OF THE DUMP (.gsa) THAT YtlnphcdanadaeaaDoorProg.lean LOADS. Nothing in Lean hashes anything: it is a label: what it is worth is what the hold of that sum in a sandbox is worth. -/
noncomputable def Tryd.pinned : Pinned := { name := "ytlnphcdanadaeaadoor", sum := "8ae8fb0193fc56a47abff9f9204721edc50a9cbce6706f8b55f40216ba7b224f", checked := Tryd.checked }
namespace Rows
def none {H : Type} : Left H := { results := [], args := [] }

/- WHAT THE LISTED PACKAGE-LEVEL VARIABLES READ AS WHEN THE CALL BEGINS. Each datum BY PROGRAM (the guide's laid-datum.mjs) off the statement by which the dump's own 'gosem.cut.vars' lays the variable. In a bare row this is a premise. The card (YtlnphcdanadaeaaDoorCards.lean) ties it to the program's text. -/
def laid_caissa_piece_kinds {H : Type} : DataW H := .agg [.agg [.lit (.int .u8 80), .lit (.int .i64 1), .lit (.string [112, 97, 119, 110])], .agg [.lit (.int .u8 78), .lit (.int .i64 3), .lit (.string [107, 110, 105, 103, 104, 116])], .agg [.lit (.int .u8 66), .lit (.int .i64 3), .lit (.string [98, 105, 115, 104, 111, 112])], .agg [.lit (.int .u8 82), .lit (.int .i64 5), .lit (.string [114, 111, 111, 107])], .agg [.lit (.int .u8 81), .lit (.int .i64 9), .lit (.string [113, 117, 101, 101, 110])], .agg [.lit (.int .u8 75), .lit (.int .i64 0), .lit (.string [107, 105, 110, 103])], .agg [.lit (.int .u8 65), .lit (.int .i64 0), .lit (.string [102, 97, 105, 114, 121, 45, 97])], .agg [.lit (.int .u8 67), .lit (.int .i64 0), .lit (.string [102, 97, 105, 114, 121, 45, 99])], .agg [.lit (.int .u8 68), .lit (.int .i64 0), .lit (.string [102, 97, 105, 114, 121, 45, 100])], .agg [.lit (.int .u8 69), .lit (.int .i64 0), .lit (.string [102, 97, 105, 114, 121, 45, 101])], .agg [.lit (.int .u8 70), .lit (.int .i64 0), .lit (.string [102, 97, 105, 114, 121, 45, 102])], .agg [.lit (.int .u8 71), .lit (.int .i64 0), .lit (.string [102, 97, 105, 114, 121, 45, 103])], .agg [.lit (.int .u8 72), .lit (.int .i64 0), .lit (.string [102, 97, 105, 114, 121, 45, 104])], .agg [.lit (.int .u8 73), .lit (.int .i64 0), .lit (.string [102, 97, 105, 114, 121, 45, 105])], .agg [.lit (.int .u8 74), .lit (.int .i64 0), .lit (.string [102, 97, 105, 114, 121, 45, 106])]]
def laid_unicode_utf8_acceptRanges {H : Type} : DataW H := .agg [.agg [.lit (.int .u8 128), .lit (.int .u8 191)], .agg [.lit (.int .u8 160), .lit (.int .u8 191)], .agg [.lit (.int .u8 128), .lit (.int .u8 159)], .agg [.lit (.int .u8 144), .lit (.int .u8 191)], .agg [.lit (.int .u8 128), .lit (.int .u8 143)], .agg [.lit (.int .u8 0), .lit (.int .u8 0)], .agg [.lit (.int .u8 0), .lit (.int .u8 0)], .agg [.lit (.int .u8 0), .lit (.int .u8 0)], .agg [.lit (.int .u8 0), .lit (.int .u8 0)], .agg [.lit (.int .u8 0), .lit (.int .u8 0)], .agg [.lit (.int .u8 0), .lit (.int .u8 0)], .agg [.lit (.int .u8 0), .lit (.int .u8 0)], .agg [.lit (.int .u8 0), .lit (.int .u8 0)], .agg [.lit (.int .u8 0), .lit (.int .u8 0)], .agg [.lit (.int .u8 0), .lit (.int .u8 0)], .agg [.lit (.int .u8 0), .lit (.int .u8 0)]]
/-- One of Go's own tables, pinned by name: the form's constant. -/
def laid_unicode_utf8_first : DataW Unit := Go.Pinned.utf8First

/-- 'caissalaw07.MoveTexts': WHATEVER THE INPUT: true; the input reads as it did. -/
def moveTextsSpec : ChangeSpec := { name := "moveTexts", fn := fun _ => fun
  | [d1, d2] => { results := [.lit (.bool true)], args := [d1, d2] }
  | _ => none }
def moveTextsRow : OpenClaim := { program := "ytlnphcdanadaeaadoor", sum := "8ae8fb0193fc56a47abff9f9204721edc50a9cbce6706f8b55f40216ba7b224f", func := "caissa/caissalaw07.MoveTexts", spec := "moveTexts", inPlace := ["internal/abi.NoEscape", "internal/bytealg.MakeNoZero", "internal/bytealg.CountString", "internal/bytealg.IndexByteString", "internal/bytealg.IndexString"], named := ["caissa/piece.kinds", "unicode/utf8.first", "unicode/utf8.acceptRanges", "internal/bytealg.MaxLen"], apart := false, laid := [("caissa/piece.kinds", laid_caissa_piece_kinds), ("unicode/utf8.acceptRanges", laid_unicode_utf8_acceptRanges), ("unicode/utf8.first", laid_unicode_utf8_first)] }
def MoveTextsSaid : Prop := moveTextsRow.holds Tryd.pinned (OpenSpec.ofChange moveTextsSpec)

/-- ITS FALSE NEIGHBOUR: 'it returns false'. Refute it at one input. -/
def moveTextsWrong : ChangeSpec := { name := "moveTexts", fn := fun _ => fun
  | [d1, d2] => { results := [.lit (.bool false)], args := [d1, d2] }
  | _ => none }
def MoveTextsWrongFalsely : Prop := moveTextsRow.holds Tryd.pinned (OpenSpec.ofChange moveTextsWrong)

/-- 'caissalaw07.MoveParses': WHATEVER THE INPUT: true; the input reads as it did. -/
def moveParsesSpec : ChangeSpec := { name := "moveParses", fn := fun _ => fun
  | [d1, d2] => { results := [.lit (.bool true)], args := [d1, d2] }
  | _ => none }
def moveParsesRow : OpenClaim := { program := "ytlnphcdanadaeaadoor", sum := "8ae8fb0193fc56a47abff9f9204721edc50a9cbce6706f8b55f40216ba7b224f", func := "caissa/caissalaw07.MoveParses", spec := "moveParses", inPlace := ["internal/abi.NoEscape", "internal/bytealg.MakeNoZero", "internal/bytealg.CountString", "internal/bytealg.IndexByteString", "internal/bytealg.IndexString"], named := ["caissa/piece.kinds", "unicode/utf8.first", "unicode/utf8.acceptRanges", "internal/bytealg.MaxLen"], apart := false, laid := [("caissa/piece.kinds", laid_caissa_piece_kinds), ("unicode/utf8.acceptRanges", laid_unicode_utf8_acceptRanges), ("unicode/utf8.first", laid_unicode_utf8_first)] }
def MoveParsesSaid : Prop := moveParsesRow.holds Tryd.pinned (OpenSpec.ofChange moveParsesSpec)

/-- ITS FALSE NEIGHBOUR: 'it returns false'. Refute it at one input. -/
def moveParsesWrong : ChangeSpec := { name := "moveParses", fn := fun _ => fun
  | [d1, d2] => { results := [.lit (.bool false)], args := [d1, d2] }
  | _ => none }
def MoveParsesWrongFalsely : Prop := moveParsesRow.holds Tryd.pinned (OpenSpec.ofChange moveParsesWrong)

/-- 'caissalaw07.MoveLines': WHATEVER THE INPUT: true; the input reads as it did. -/
def moveLinesSpec : ChangeSpec := { name := "moveLines", fn := fun _ => fun
  | [d1, d2, d3] => { results := [.lit (.bool true)], args := [d1, d2, d3] }
  | _ => none }
def moveLinesRow : OpenClaim := { program := "ytlnphcdanadaeaadoor", sum := "8ae8fb0193fc56a47abff9f9204721edc50a9cbce6706f8b55f40216ba7b224f", func := "caissa/caissalaw07.MoveLines", spec := "moveLines", inPlace := ["internal/abi.NoEscape", "internal/bytealg.MakeNoZero", "internal/bytealg.CountString", "internal/bytealg.IndexByteString", "internal/bytealg.IndexString"], named := ["caissa/piece.kinds", "unicode/utf8.first", "unicode/utf8.acceptRanges", "internal/bytealg.MaxLen"], apart := false, laid := [("caissa/piece.kinds", laid_caissa_piece_kinds), ("unicode/utf8.acceptRanges", laid_unicode_utf8_acceptRanges), ("unicode/utf8.first", laid_unicode_utf8_first)] }
def MoveLinesSaid : Prop := moveLinesRow.holds Tryd.pinned (OpenSpec.ofChange moveLinesSpec)

/-- ITS FALSE NEIGHBOUR: 'it returns false'. Refute it at one input. -/
def moveLinesWrong : ChangeSpec := { name := "moveLines", fn := fun _ => fun
  | [d1, d2, d3] => { results := [.lit (.bool false)], args := [d1, d2, d3] }
  | _ => none }
def MoveLinesWrongFalsely : Prop := moveLinesRow.holds Tryd.pinned (OpenSpec.ofChange moveLinesWrong)

/-- 'caissalaw07.MoveReads': WHATEVER THE INPUT: true; the input reads as it did. -/
def moveReadsSpec : ChangeSpec := { name := "moveReads", fn := fun _ => fun
  | [d1, d2] => { results := [.lit (.bool true)], args := [d1, d2] }
  | _ => none }
def moveReadsRow : OpenClaim := { program := "ytlnphcdanadaeaadoor", sum := "8ae8fb0193fc56a47abff9f9204721edc50a9cbce6706f8b55f40216ba7b224f", func := "caissa/caissalaw07.MoveReads", spec := "moveReads", inPlace := ["internal/abi.NoEscape", "internal/bytealg.MakeNoZero", "internal/bytealg.CountString", "internal/bytealg.IndexByteString", "internal/bytealg.IndexString"], named := ["caissa/piece.kinds", "unicode/utf8.first", "unicode/utf8.acceptRanges", "internal/bytealg.MaxLen"], apart := false, laid := [("caissa/piece.kinds", laid_caissa_piece_kinds), ("unicode/utf8.acceptRanges", laid_unicode_utf8_acceptRanges), ("unicode/utf8.first", laid_unicode_utf8_first)] }
def MoveReadsSaid : Prop := moveReadsRow.holds Tryd.pinned (OpenSpec.ofChange moveReadsSpec)

/-- ITS FALSE NEIGHBOUR: 'it returns false'. Refute it at one input. -/
def moveReadsWrong : ChangeSpec := { name := "moveReads", fn := fun _ => fun
  | [d1, d2] => { results := [.lit (.bool false)], args := [d1, d2] }
  | _ => none }
def MoveReadsWrongFalsely : Prop := moveReadsRow.holds Tryd.pinned (OpenSpec.ofChange moveReadsWrong)

/-- 'caissalaw07.MoveValid': WHATEVER THE INPUT: true; the input reads as it did. -/
def moveValidSpec : ChangeSpec := { name := "moveValid", fn := fun _ => fun
  | [d1, d2, d3] => { results := [.lit (.bool true)], args := [d1, d2, d3] }
  | _ => none }
def moveValidRow : OpenClaim := { program := "ytlnphcdanadaeaadoor", sum := "8ae8fb0193fc56a47abff9f9204721edc50a9cbce6706f8b55f40216ba7b224f", func := "caissa/caissalaw07.MoveValid", spec := "moveValid", inPlace := ["internal/abi.NoEscape", "internal/bytealg.MakeNoZero", "internal/bytealg.CountString", "internal/bytealg.IndexByteString", "internal/bytealg.IndexString"], named := ["caissa/piece.kinds", "unicode/utf8.first", "unicode/utf8.acceptRanges", "internal/bytealg.MaxLen"], apart := false, laid := [("caissa/piece.kinds", laid_caissa_piece_kinds), ("unicode/utf8.acceptRanges", laid_unicode_utf8_acceptRanges), ("unicode/utf8.first", laid_unicode_utf8_first)] }
def MoveValidSaid : Prop := moveValidRow.holds Tryd.pinned (OpenSpec.ofChange moveValidSpec)

/-- ITS FALSE NEIGHBOUR: 'it returns false'. Refute it at one input. -/
def moveValidWrong : ChangeSpec := { name := "moveValid", fn := fun _ => fun
  | [d1, d2, d3] => { results := [.lit (.bool false)], args := [d1, d2, d3] }
  | _ => none }
def MoveValidWrongFalsely : Prop := moveValidRow.holds Tryd.pinned (OpenSpec.ofChange moveValidWrong)

/-- 'caissalaw07.MoveHolds': WHATEVER THE INPUT: true; the input reads as it did. -/
def moveHoldsSpec : ChangeSpec := { name := "moveHolds", fn := fun _ => fun
  | [d1, d2, d3, d4, d5, d6] => { results := [.lit (.bool true)], args := [d1, d2, d3, d4, d5, d6] }
  | _ => none }
def moveHoldsRow : OpenClaim := { program := "ytlnphcdanadaeaadoor", sum := "8ae8fb0193fc56a47abff9f9204721edc50a9cbce6706f8b55f40216ba7b224f", func := "caissa/caissalaw07.MoveHolds", spec := "moveHolds", inPlace := ["internal/abi.NoEscape", "internal/bytealg.MakeNoZero", "internal/bytealg.CountString", "internal/bytealg.IndexByteString", "internal/bytealg.IndexString"], named := ["caissa/piece.kinds", "unicode/utf8.first", "unicode/utf8.acceptRanges", "internal/bytealg.MaxLen"], apart := false, laid := [("caissa/piece.kinds", laid_caissa_piece_kinds), ("unicode/utf8.acceptRanges", laid_unicode_utf8_acceptRanges), ("unicode/utf8.first", laid_unicode_utf8_first)] }
def MoveHoldsSaid : Prop := moveHoldsRow.holds Tryd.pinned (OpenSpec.ofChange moveHoldsSpec)

/-- ITS FALSE NEIGHBOUR: 'it returns false'. Refute it at one input. -/
def moveHoldsWrong : ChangeSpec := { name := "moveHolds", fn := fun _ => fun
  | [d1, d2, d3, d4, d5, d6] => { results := [.lit (.bool false)], args := [d1, d2, d3, d4, d5, d6] }
  | _ => none }
def MoveHoldsWrongFalsely : Prop := moveHoldsRow.holds Tryd.pinned (OpenSpec.ofChange moveHoldsWrong)

/- THE SECOND FORM. 'bulk': how many values and letters a reading holds, each counted each time it is reached (what is shared counts as often as it is met; a slice's spare places count too). A statement '..UptoSaid' is the law's where the arguments, and the package variables that the reading takes, are together of bulk at most 1048576: NARROWER than '..Said'. Prove '..Said' where nothing that the law and all that it calls make is longer than what came in: it says more and counts as full. Else prove '..UptoSaid'. A law counts once. -/
mutual
def uptoBulk {H : Type} : DataW H → Nat
  | .lit (.string bytes) => bytes.length + 1
  | .lit _ => 1
  | .nil => 1
  | .ptr d => uptoBulk d + 1
  | .slice elems spare => uptoBulkAll elems + uptoBulkAll spare + 1
  | .agg parts => uptoBulkAll parts + 1
  | .iface _ d => uptoBulk d + 1
  | .map entries => uptoBulkEntries entries + 1
  | .held _ => 1
def uptoBulkAll {H : Type} : List (DataW H) → Nat
  | [] => 0
  | d :: r => uptoBulk d + uptoBulkAll r
def uptoBulkEntries {H : Type} : List (Lit × DataW H) → Nat
  | [] => 0
  | x :: r => uptoBulkEntry x + uptoBulkEntries r
def uptoBulkEntry {H : Type} : Lit × DataW H → Nat
  | (.string bytes, d) => bytes.length + uptoBulk d + 1
  | (_, d) => uptoBulk d + 1
 end
def uptoSmall : (H : Type) → List (DataW H) → Bool := fun _ ds => decide (uptoBulkAll ds ≤ 1048576)
def OpenSpec.upto (s : _root_.Go.ChangeSpec) : _root_.Go.OpenSpec := { _root_.Go.OpenSpec.ofChange s with cond := some uptoSmall }

/-- 'caissalaw07.MoveTexts', WHERE WHAT IT READS IS OF BULK AT MOST 1048576: true; the input reads as it did. -/
def moveTextsUptoRow : OpenClaim := { program := "ytlnphcdanadaeaadoor", sum := "8ae8fb0193fc56a47abff9f9204721edc50a9cbce6706f8b55f40216ba7b224f", func := "caissa/caissalaw07.MoveTexts", spec := "moveTexts", inPlace := ["internal/abi.NoEscape", "internal/bytealg.MakeNoZero", "internal/bytealg.CountString", "internal/bytealg.IndexByteString", "internal/bytealg.IndexString"], named := ["caissa/piece.kinds", "unicode/utf8.first", "unicode/utf8.acceptRanges", "internal/bytealg.MaxLen"], apart := false, laid := [("caissa/piece.kinds", laid_caissa_piece_kinds), ("unicode/utf8.acceptRanges", laid_unicode_utf8_acceptRanges), ("unicode/utf8.first", laid_unicode_utf8_first)], narrowed := true }
def MoveTextsUptoSaid : Prop := moveTextsUptoRow.holds Tryd.pinned (OpenSpec.upto moveTextsSpec)

/-- 'caissalaw07.MoveParses', WHERE WHAT IT READS IS OF BULK AT MOST 1048576: true; the input reads as it did. -/
def moveParsesUptoRow : OpenClaim := { program := "ytlnphcdanadaeaadoor", sum := "8ae8fb0193fc56a47abff9f9204721edc50a9cbce6706f8b55f40216ba7b224f", func := "caissa/caissalaw07.MoveParses", spec := "moveParses", inPlace := ["internal/abi.NoEscape", "internal/bytealg.MakeNoZero", "internal/bytealg.CountString", "internal/bytealg.IndexByteString", "internal/bytealg.IndexString"], named := ["caissa/piece.kinds", "unicode/utf8.first", "unicode/utf8.acceptRanges", "internal/bytealg.MaxLen"], apart := false, laid := [("caissa/piece.kinds", laid_caissa_piece_kinds), ("unicode/utf8.acceptRanges", laid_unicode_utf8_acceptRanges), ("unicode/utf8.first", laid_unicode_utf8_first)], narrowed := true }
def MoveParsesUptoSaid : Prop := moveParsesUptoRow.holds Tryd.pinned (OpenSpec.upto moveParsesSpec)

/-- 'caissalaw07.MoveLines', WHERE WHAT IT READS IS OF BULK AT MOST 1048576: true; the input reads as it did. -/
def moveLinesUptoRow : OpenClaim := { program := "ytlnphcdanadaeaadoor", sum := "8ae8fb0193fc56a47abff9f9204721edc50a9cbce6706f8b55f40216ba7b224f", func := "caissa/caissalaw07.MoveLines", spec := "moveLines", inPlace := ["internal/abi.NoEscape", "internal/bytealg.MakeNoZero", "internal/bytealg.CountString", "internal/bytealg.IndexByteString", "internal/bytealg.IndexString"], named := ["caissa/piece.kinds", "unicode/utf8.first", "unicode/utf8.acceptRanges", "internal/bytealg.MaxLen"], apart := false, laid := [("caissa/piece.kinds", laid_caissa_piece_kinds), ("unicode/utf8.acceptRanges", laid_unicode_utf8_acceptRanges), ("unicode/utf8.first", laid_unicode_utf8_first)], narrowed := true }
def MoveLinesUptoSaid : Prop := moveLinesUptoRow.holds Tryd.pinned (OpenSpec.upto moveLinesSpec)

/-- 'caissalaw07.MoveReads', WHERE WHAT IT READS IS OF BULK AT MOST 1048576: true; the input reads as it did. -/
def moveReadsUptoRow : OpenClaim := { program := "ytlnphcdanadaeaadoor", sum := "8ae8fb0193fc56a47abff9f9204721edc50a9cbce6706f8b55f40216ba7b224f", func := "caissa/caissalaw07.MoveReads", spec := "moveReads", inPlace := ["internal/abi.NoEscape", "internal/bytealg.MakeNoZero", "internal/bytealg.CountString", "internal/bytealg.IndexByteString", "internal/bytealg.IndexString"], named := ["caissa/piece.kinds", "unicode/utf8.first", "unicode/utf8.acceptRanges", "internal/bytealg.MaxLen"], apart := false, laid := [("caissa/piece.kinds", laid_caissa_piece_kinds), ("unicode/utf8.acceptRanges", laid_unicode_utf8_acceptRanges), ("unicode/utf8.first", laid_unicode_utf8_first)], narrowed := true }
def MoveReadsUptoSaid : Prop := moveReadsUptoRow.holds Tryd.pinned (OpenSpec.upto moveReadsSpec)

/-- 'caissalaw07.MoveValid', WHERE WHAT IT READS IS OF BULK AT MOST 1048576: true; the input reads as it did. -/
def moveValidUptoRow : OpenClaim := { program := "ytlnphcdanadaeaadoor", sum := "8ae8fb0193fc56a47abff9f9204721edc50a9cbce6706f8b55f40216ba7b224f", func := "caissa/caissalaw07.MoveValid", spec := "moveValid", inPlace := ["internal/abi.NoEscape", "internal/bytealg.MakeNoZero", "internal/bytealg.CountString", "internal/bytealg.IndexByteString", "internal/bytealg.IndexString"], named := ["caissa/piece.kinds", "unicode/utf8.first", "unicode/utf8.acceptRanges", "internal/bytealg.MaxLen"], apart := false, laid := [("caissa/piece.kinds", laid_caissa_piece_kinds), ("unicode/utf8.acceptRanges", laid_unicode_utf8_acceptRanges), ("unicode/utf8.first", laid_unicode_utf8_first)], narrowed := true }
def MoveValidUptoSaid : Prop := moveValidUptoRow.holds Tryd.pinned (OpenSpec.upto moveValidSpec)

/-- 'caissalaw07.MoveHolds', WHERE WHAT IT READS IS OF BULK AT MOST 1048576: true; the input reads as it did. -/
def moveHoldsUptoRow : OpenClaim := { program := "ytlnphcdanadaeaadoor", sum := "8ae8fb0193fc56a47abff9f9204721edc50a9cbce6706f8b55f40216ba7b224f", func := "caissa/caissalaw07.MoveHolds", spec := "moveHolds", inPlace := ["internal/abi.NoEscape", "internal/bytealg.MakeNoZero", "internal/bytealg.CountString", "internal/bytealg.IndexByteString", "internal/bytealg.IndexString"], named := ["caissa/piece.kinds", "unicode/utf8.first", "unicode/utf8.acceptRanges", "internal/bytealg.MaxLen"], apart := false, laid := [("caissa/piece.kinds", laid_caissa_piece_kinds), ("unicode/utf8.acceptRanges", laid_unicode_utf8_acceptRanges), ("unicode/utf8.first", laid_unicode_utf8_first)], narrowed := true }
def MoveHoldsUptoSaid : Prop := moveHoldsUptoRow.holds Tryd.pinned (OpenSpec.upto moveHoldsSpec)

end Rows
end Go.Proofs.YtlnphcdanadaeaaDoor
