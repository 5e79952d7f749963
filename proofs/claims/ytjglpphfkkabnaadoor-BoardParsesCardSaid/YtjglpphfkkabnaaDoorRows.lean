/-
  NARROWER THAN 'FOR EVERY INPUT', by the rows' own cells (each row's printed sentence says how): BoardPuts: laid · BoardFinds: laid · BoardTexts: laid · BoardParses: laid · BoardHolds: laid · BoardValid: laid.
  DERIVED. THE GIVEN ROWS OF THIS SEAT. 6 by the template 'for every input the law returns true; each argument reads behind the call as it read before'; 0 by the template 'total and deterministic' (their statements: YtjglpphfkkabnaaDoorTotals.lean).
  GIVEN WITH THE SEED: the statements are not yours to turn. If you find one false, say at which input.
  Laid BY PROGRAM, IN A SANDBOX (cutbox-rows.mjs): the forced cells as the released guide's own fill.sh prints them over the translation 7e1317a42a78a21c… (all of the seat's roots in one cut). By AI agents, Wed Nov 11 2026. No macro, syntax, notation, axiom, sorry.
-/
import Derived.Test.YtjglpphfkkabnaaDoorChecked
import GoSem.PinnedTables
import GoSem.Claim
import GoSem.ClaimJoined
import GoSem.ClaimMapViews
import Derived.JoinedTies
import Derived.KernelRfl
namespace Go.Proofs.YtjglpphfkkabnaaDoor
/- THE CELL 'sum', in the pinned program and in every row, IS THE sha256 OF THE DUMP (.gsa) THAT YtjglpphfkkabnaaDoorProg.lean LOADS. Nothing in Lean hashes anything: it is a label: what it is worth is what the hold of that sum in a sandbox is worth. -/
noncomputable def Tryd.pinned : Pinned := { name := "ytjglpphfkkabnaadoor", sum := "7e1317a42a78a21caa4698154233d08bfc865efe8498b60abdac415a7a77aaf5", checked := Tryd.checked }
namespace Rows
def none {H : Type} : Left H := { results := [], args := [] }

/- WHAT THE LISTED PACKAGE-LEVEL VARIABLES READ AS WHEN THE CALL BEGINS. Each datum BY PROGRAM (the guide's laid-datum.mjs) off the statement by which the dump's own 'gosem.cut.vars' lays the variable. In a bare row this is a premise. The card (YtjglpphfkkabnaaDoorCards.lean) ties it to the program's text. -/
def laid_caissa_piece_kinds {H : Type} : DataW H := .agg [.agg [.lit (.int .u8 80), .lit (.int .i64 1), .lit (.string [112, 97, 119, 110])], .agg [.lit (.int .u8 78), .lit (.int .i64 3), .lit (.string [107, 110, 105, 103, 104, 116])], .agg [.lit (.int .u8 66), .lit (.int .i64 3), .lit (.string [98, 105, 115, 104, 111, 112])], .agg [.lit (.int .u8 82), .lit (.int .i64 5), .lit (.string [114, 111, 111, 107])], .agg [.lit (.int .u8 81), .lit (.int .i64 9), .lit (.string [113, 117, 101, 101, 110])], .agg [.lit (.int .u8 75), .lit (.int .i64 0), .lit (.string [107, 105, 110, 103])], .agg [.lit (.int .u8 65), .lit (.int .i64 0), .lit (.string [102, 97, 105, 114, 121, 45, 97])], .agg [.lit (.int .u8 67), .lit (.int .i64 0), .lit (.string [102, 97, 105, 114, 121, 45, 99])], .agg [.lit (.int .u8 68), .lit (.int .i64 0), .lit (.string [102, 97, 105, 114, 121, 45, 100])], .agg [.lit (.int .u8 69), .lit (.int .i64 0), .lit (.string [102, 97, 105, 114, 121, 45, 101])], .agg [.lit (.int .u8 70), .lit (.int .i64 0), .lit (.string [102, 97, 105, 114, 121, 45, 102])], .agg [.lit (.int .u8 71), .lit (.int .i64 0), .lit (.string [102, 97, 105, 114, 121, 45, 103])], .agg [.lit (.int .u8 72), .lit (.int .i64 0), .lit (.string [102, 97, 105, 114, 121, 45, 104])], .agg [.lit (.int .u8 73), .lit (.int .i64 0), .lit (.string [102, 97, 105, 114, 121, 45, 105])], .agg [.lit (.int .u8 74), .lit (.int .i64 0), .lit (.string [102, 97, 105, 114, 121, 45, 106])]]
def laid_unicode_utf8_acceptRanges {H : Type} : DataW H := .agg [.agg [.lit (.int .u8 128), .lit (.int .u8 191)], .agg [.lit (.int .u8 160), .lit (.int .u8 191)], .agg [.lit (.int .u8 128), .lit (.int .u8 159)], .agg [.lit (.int .u8 144), .lit (.int .u8 191)], .agg [.lit (.int .u8 128), .lit (.int .u8 143)], .agg [.lit (.int .u8 0), .lit (.int .u8 0)], .agg [.lit (.int .u8 0), .lit (.int .u8 0)], .agg [.lit (.int .u8 0), .lit (.int .u8 0)], .agg [.lit (.int .u8 0), .lit (.int .u8 0)], .agg [.lit (.int .u8 0), .lit (.int .u8 0)], .agg [.lit (.int .u8 0), .lit (.int .u8 0)], .agg [.lit (.int .u8 0), .lit (.int .u8 0)], .agg [.lit (.int .u8 0), .lit (.int .u8 0)], .agg [.lit (.int .u8 0), .lit (.int .u8 0)], .agg [.lit (.int .u8 0), .lit (.int .u8 0)], .agg [.lit (.int .u8 0), .lit (.int .u8 0)]]
/-- One of Go's own tables, pinned by name: the form's constant. -/
def laid_unicode_utf8_first : DataW Unit := Go.Pinned.utf8First

/-- 'caissalaw03.BoardPuts': WHATEVER THE INPUT: true; the input reads as it did. -/
def boardPutsSpec : ChangeSpec := { name := "boardPuts", fn := fun _ => fun
  | [d1, d2, d3] => { results := [.lit (.bool true)], args := [d1, d2, d3] }
  | _ => none }
def boardPutsRow : OpenClaim := { program := "ytjglpphfkkabnaadoor", sum := "7e1317a42a78a21caa4698154233d08bfc865efe8498b60abdac415a7a77aaf5", func := "caissa/caissalaw03.BoardPuts", spec := "boardPuts", inPlace := ["internal/abi.NoEscape", "internal/bytealg.MakeNoZero", "internal/bytealg.CountString", "internal/bytealg.IndexByteString", "internal/bytealg.IndexString"], unfollowed := true, recurses := true, named := ["caissa/piece.kinds", "unicode/utf8.first", "unicode/utf8.acceptRanges", "internal/bytealg.MaxLen"], apart := false, laid := [("caissa/piece.kinds", laid_caissa_piece_kinds), ("unicode/utf8.acceptRanges", laid_unicode_utf8_acceptRanges), ("unicode/utf8.first", laid_unicode_utf8_first)] }
def BoardPutsSaid : Prop := boardPutsRow.holds Tryd.pinned (OpenSpec.ofChange boardPutsSpec)

/-- ITS FALSE NEIGHBOUR: 'it returns false'. Refute it at one input. -/
def boardPutsWrong : ChangeSpec := { name := "boardPuts", fn := fun _ => fun
  | [d1, d2, d3] => { results := [.lit (.bool false)], args := [d1, d2, d3] }
  | _ => none }
def BoardPutsWrongFalsely : Prop := boardPutsRow.holds Tryd.pinned (OpenSpec.ofChange boardPutsWrong)

/-- 'caissalaw03.BoardFinds': WHATEVER THE INPUT: true; the input reads as it did. -/
def boardFindsSpec : ChangeSpec := { name := "boardFinds", fn := fun _ => fun
  | [d1, d2] => { results := [.lit (.bool true)], args := [d1, d2] }
  | _ => none }
def boardFindsRow : OpenClaim := { program := "ytjglpphfkkabnaadoor", sum := "7e1317a42a78a21caa4698154233d08bfc865efe8498b60abdac415a7a77aaf5", func := "caissa/caissalaw03.BoardFinds", spec := "boardFinds", inPlace := ["internal/abi.NoEscape", "internal/bytealg.MakeNoZero", "internal/bytealg.CountString", "internal/bytealg.IndexByteString", "internal/bytealg.IndexString"], unfollowed := true, recurses := true, named := ["caissa/piece.kinds", "unicode/utf8.first", "unicode/utf8.acceptRanges", "internal/bytealg.MaxLen"], apart := false, laid := [("caissa/piece.kinds", laid_caissa_piece_kinds), ("unicode/utf8.acceptRanges", laid_unicode_utf8_acceptRanges), ("unicode/utf8.first", laid_unicode_utf8_first)] }
def BoardFindsSaid : Prop := boardFindsRow.holds Tryd.pinned (OpenSpec.ofChange boardFindsSpec)

/-- ITS FALSE NEIGHBOUR: 'it returns false'. Refute it at one input. -/
def boardFindsWrong : ChangeSpec := { name := "boardFinds", fn := fun _ => fun
  | [d1, d2] => { results := [.lit (.bool false)], args := [d1, d2] }
  | _ => none }
def BoardFindsWrongFalsely : Prop := boardFindsRow.holds Tryd.pinned (OpenSpec.ofChange boardFindsWrong)

/-- 'caissalaw03.BoardTexts': WHATEVER THE INPUT: true; the input reads as it did. -/
def boardTextsSpec : ChangeSpec := { name := "boardTexts", fn := fun _ => fun
  | [d] => { results := [.lit (.bool true)], args := [d] }
  | _ => none }
def boardTextsRow : OpenClaim := { program := "ytjglpphfkkabnaadoor", sum := "7e1317a42a78a21caa4698154233d08bfc865efe8498b60abdac415a7a77aaf5", func := "caissa/caissalaw03.BoardTexts", spec := "boardTexts", inPlace := ["internal/abi.NoEscape", "internal/bytealg.MakeNoZero", "internal/bytealg.CountString", "internal/bytealg.IndexByteString", "internal/bytealg.IndexString"], unfollowed := true, recurses := true, named := ["caissa/piece.kinds", "unicode/utf8.first", "unicode/utf8.acceptRanges", "internal/bytealg.MaxLen"], apart := false, laid := [("caissa/piece.kinds", laid_caissa_piece_kinds), ("unicode/utf8.acceptRanges", laid_unicode_utf8_acceptRanges), ("unicode/utf8.first", laid_unicode_utf8_first)] }
def BoardTextsSaid : Prop := boardTextsRow.holds Tryd.pinned (OpenSpec.ofChange boardTextsSpec)

/-- ITS FALSE NEIGHBOUR: 'it returns false'. Refute it at one input. -/
def boardTextsWrong : ChangeSpec := { name := "boardTexts", fn := fun _ => fun
  | [d] => { results := [.lit (.bool false)], args := [d] }
  | _ => none }
def BoardTextsWrongFalsely : Prop := boardTextsRow.holds Tryd.pinned (OpenSpec.ofChange boardTextsWrong)

/-- 'caissalaw03.BoardParses': WHATEVER THE INPUT: true; the input reads as it did. -/
def boardParsesSpec : ChangeSpec := { name := "boardParses", fn := fun _ => fun
  | [d] => { results := [.lit (.bool true)], args := [d] }
  | _ => none }
def boardParsesRow : OpenClaim := { program := "ytjglpphfkkabnaadoor", sum := "7e1317a42a78a21caa4698154233d08bfc865efe8498b60abdac415a7a77aaf5", func := "caissa/caissalaw03.BoardParses", spec := "boardParses", inPlace := ["internal/abi.NoEscape", "internal/bytealg.MakeNoZero", "internal/bytealg.CountString", "internal/bytealg.IndexByteString", "internal/bytealg.IndexString"], unfollowed := true, recurses := true, named := ["caissa/piece.kinds", "unicode/utf8.first", "unicode/utf8.acceptRanges", "internal/bytealg.MaxLen"], apart := false, laid := [("caissa/piece.kinds", laid_caissa_piece_kinds), ("unicode/utf8.acceptRanges", laid_unicode_utf8_acceptRanges), ("unicode/utf8.first", laid_unicode_utf8_first)] }
def BoardParsesSaid : Prop := boardParsesRow.holds Tryd.pinned (OpenSpec.ofChange boardParsesSpec)

/-- ITS FALSE NEIGHBOUR: 'it returns false'. Refute it at one input. -/
def boardParsesWrong : ChangeSpec := { name := "boardParses", fn := fun _ => fun
  | [d] => { results := [.lit (.bool false)], args := [d] }
  | _ => none }
def BoardParsesWrongFalsely : Prop := boardParsesRow.holds Tryd.pinned (OpenSpec.ofChange boardParsesWrong)

/-- 'caissalaw03.BoardHolds': WHATEVER THE INPUT: true; the input reads as it did. -/
def boardHoldsSpec : ChangeSpec := { name := "boardHolds", fn := fun _ => fun
  | [d1, d2, d3, d4, d5] => { results := [.lit (.bool true)], args := [d1, d2, d3, d4, d5] }
  | _ => none }
def boardHoldsRow : OpenClaim := { program := "ytjglpphfkkabnaadoor", sum := "7e1317a42a78a21caa4698154233d08bfc865efe8498b60abdac415a7a77aaf5", func := "caissa/caissalaw03.BoardHolds", spec := "boardHolds", inPlace := ["internal/abi.NoEscape", "internal/bytealg.MakeNoZero", "internal/bytealg.CountString", "internal/bytealg.IndexByteString", "internal/bytealg.IndexString"], unfollowed := true, recurses := true, named := ["caissa/piece.kinds", "unicode/utf8.first", "unicode/utf8.acceptRanges", "internal/bytealg.MaxLen"], apart := false, laid := [("caissa/piece.kinds", laid_caissa_piece_kinds), ("unicode/utf8.acceptRanges", laid_unicode_utf8_acceptRanges), ("unicode/utf8.first", laid_unicode_utf8_first)] }
def BoardHoldsSaid : Prop := boardHoldsRow.holds Tryd.pinned (OpenSpec.ofChange boardHoldsSpec)

/-- ITS FALSE NEIGHBOUR: 'it returns false'. Refute it at one input. -/
def boardHoldsWrong : ChangeSpec := { name := "boardHolds", fn := fun _ => fun
  | [d1, d2, d3, d4, d5] => { results := [.lit (.bool false)], args := [d1, d2, d3, d4, d5] }
  | _ => none }
def BoardHoldsWrongFalsely : Prop := boardHoldsRow.holds Tryd.pinned (OpenSpec.ofChange boardHoldsWrong)

/-- 'caissalaw03.BoardValid': WHATEVER THE INPUT: true; the input reads as it did. -/
def boardValidSpec : ChangeSpec := { name := "boardValid", fn := fun _ => fun
  | [d1, d2] => { results := [.lit (.bool true)], args := [d1, d2] }
  | _ => none }
def boardValidRow : OpenClaim := { program := "ytjglpphfkkabnaadoor", sum := "7e1317a42a78a21caa4698154233d08bfc865efe8498b60abdac415a7a77aaf5", func := "caissa/caissalaw03.BoardValid", spec := "boardValid", inPlace := ["internal/abi.NoEscape", "internal/bytealg.MakeNoZero", "internal/bytealg.CountString", "internal/bytealg.IndexByteString", "internal/bytealg.IndexString"], unfollowed := true, recurses := true, named := ["caissa/piece.kinds", "unicode/utf8.first", "unicode/utf8.acceptRanges", "internal/bytealg.MaxLen"], apart := false, laid := [("caissa/piece.kinds", laid_caissa_piece_kinds), ("unicode/utf8.acceptRanges", laid_unicode_utf8_acceptRanges), ("unicode/utf8.first", laid_unicode_utf8_first)] }
def BoardValidSaid : Prop := boardValidRow.holds Tryd.pinned (OpenSpec.ofChange boardValidSpec)

/-- ITS FALSE NEIGHBOUR: 'it returns false'. Refute it at one input. -/
def boardValidWrong : ChangeSpec := { name := "boardValid", fn := fun _ => fun
  | [d1, d2] => { results := [.lit (.bool false)], args := [d1, d2] }
  | _ => none }
def BoardValidWrongFalsely : Prop := boardValidRow.holds Tryd.pinned (OpenSpec.ofChange boardValidWrong)

/- THE SECOND FORM. 'bulk': how many values and letters a reading holds, each counted each time it is reached (what is shared counts as often as it is met; a slice's spare places count too). A statement '..UptoSaid' is the law's where the arguments, and the package variables that the reading takes, are together of bulk at most 1048576: NARROWER than '..Said'. Prove '..Said' where nothing that the law and all that it calls make is longer than what came in: it says more and counts as full. Else prove '..UptoSaid'. A law counts once. -/
mutual
def uptoBulk {H : Type} : DataW H → Nat
  | .lit (.string bytes) => bytes.length + 1
  | .lit _ => 1
  | .nil => 1
  | .ptr d => uptoBulk d + 1
  | .slice elems spare => uptoBulkAll elems + uptoBulkAll spare + 1
  | .agg parts => uptoBulkAll parts + 1
  | .iface _ d => uptoBulk d + 1
  | .map entries => uptoBulkEntries entries + 1
  | .held _ => 1
def uptoBulkAll {H : Type} : List (DataW H) → Nat
  | [] => 0
  | d :: r => uptoBulk d + uptoBulkAll r
def uptoBulkEntries {H : Type} : List (Lit × DataW H) → Nat
  | [] => 0
  | x :: r => uptoBulkEntry x + uptoBulkEntries r
def uptoBulkEntry {H : Type} : Lit × DataW H → Nat
  | (.string bytes, d) => bytes.length + uptoBulk d + 1
  | (_, d) => uptoBulk d + 1
 end
def uptoSmall : (H : Type) → List (DataW H) → Bool := fun _ ds => decide (uptoBulkAll ds ≤ 1048576)
def OpenSpec.upto (s : _root_.Go.ChangeSpec) : _root_.Go.OpenSpec := { _root_.Go.OpenSpec.ofChange s with cond := some uptoSmall }

/-- 'caissalaw03.BoardPuts', WHERE WHAT IT READS IS OF BULK AT MOST 1048576: true; the input reads as it did. -/
def boardPutsUptoRow : OpenClaim := { program := "ytjglpphfkkabnaadoor", sum := "7e1317a42a78a21caa4698154233d08bfc865efe8498b60abdac415a7a77aaf5", func := "caissa/caissalaw03.BoardPuts", spec := "boardPuts", inPlace := ["internal/abi.NoEscape", "internal/bytealg.MakeNoZero", "internal/bytealg.CountString", "internal/bytealg.IndexByteString", "internal/bytealg.IndexString"], unfollowed := true, recurses := true, named := ["caissa/piece.kinds", "unicode/utf8.first", "unicode/utf8.acceptRanges", "internal/bytealg.MaxLen"], apart := false, laid := [("caissa/piece.kinds", laid_caissa_piece_kinds), ("unicode/utf8.acceptRanges", laid_unicode_utf8_acceptRanges), ("unicode/utf8.first", laid_unicode_utf8_first)], narrowed := true }
def BoardPutsUptoSaid : Prop := boardPutsUptoRow.holds Tryd.pinned (OpenSpec.upto boardPutsSpec)

/-- 'caissalaw03.BoardFinds', WHERE WHAT IT READS IS OF BULK AT MOST 1048576: true; the input reads as it did. -/
def boardFindsUptoRow : OpenClaim := { program := "ytjglpphfkkabnaadoor", sum := "7e1317a42a78a21caa4698154233d08bfc865efe8498b60abdac415a7a77aaf5", func := "caissa/caissalaw03.BoardFinds", spec := "boardFinds", inPlace := ["internal/abi.NoEscape", "internal/bytealg.MakeNoZero", "internal/bytealg.CountString", "internal/bytealg.IndexByteString", "internal/bytealg.IndexString"], unfollowed := true, recurses := true, named := ["caissa/piece.kinds", "unicode/utf8.first", "unicode/utf8.acceptRanges", "internal/bytealg.MaxLen"], apart := false, laid := [("caissa/piece.kinds", laid_caissa_piece_kinds), ("unicode/utf8.acceptRanges", laid_unicode_utf8_acceptRanges), ("unicode/utf8.first", laid_unicode_utf8_first)], narrowed := true }
def BoardFindsUptoSaid : Prop := boardFindsUptoRow.holds Tryd.pinned (OpenSpec.upto boardFindsSpec)

/-- 'caissalaw03.BoardTexts', WHERE WHAT IT READS IS OF BULK AT MOST 1048576: true; the input reads as it did. -/
def boardTextsUptoRow : OpenClaim := { program := "ytjglpphfkkabnaadoor", sum := "7e1317a42a78a21caa4698154233d08bfc865efe8498b60abdac415a7a77aaf5", func := "caissa/caissalaw03.BoardTexts", spec := "boardTexts", inPlace := ["internal/abi.NoEscape", "internal/bytealg.MakeNoZero", "internal/bytealg.CountString", "internal/bytealg.IndexByteString", "internal/bytealg.IndexString"], unfollowed := true, recurses := true, named := ["caissa/piece.kinds", "unicode/utf8.first", "unicode/utf8.acceptRanges", "internal/bytealg.MaxLen"], apart := false, laid := [("caissa/piece.kinds", laid_caissa_piece_kinds), ("unicode/utf8.acceptRanges", laid_unicode_utf8_acceptRanges), ("unicode/utf8.first", laid_unicode_utf8_first)], narrowed := true }
def BoardTextsUptoSaid : Prop := boardTextsUptoRow.holds Tryd.pinned (OpenSpec.upto boardTextsSpec)

/-- 'caissalaw03.BoardParses', WHERE WHAT IT READS IS OF BULK AT MOST 1048576: true; the input reads as it did. -/
def boardParsesUptoRow : OpenClaim := { program := "ytjglpphfkkabnaadoor", sum := "7e1317a42a78a21caa4698154233d08bfc865efe8498b60abdac415a7a77aaf5", func := "caissa/caissalaw03.BoardParses", spec := "boardParses", inPlace := ["internal/abi.NoEscape", "internal/bytealg.MakeNoZero", "internal/bytealg.CountString", "internal/bytealg.IndexByteString", "internal/bytealg.IndexString"], unfollowed := true, recurses := true, named := ["caissa/piece.kinds", "unicode/utf8.first", "unicode/utf8.acceptRanges", "internal/bytealg.MaxLen"], apart := false, laid := [("caissa/piece.kinds", laid_caissa_piece_kinds), ("unicode/utf8.acceptRanges", laid_unicode_utf8_acceptRanges), ("unicode/utf8.first", laid_unicode_utf8_first)], narrowed := true }
def BoardParsesUptoSaid : Prop := boardParsesUptoRow.holds Tryd.pinned (OpenSpec.upto boardParsesSpec)

/-- 'caissalaw03.BoardHolds', WHERE WHAT IT READS IS OF BULK AT MOST 1048576: true; the input reads as it did. -/
def boardHoldsUptoRow : OpenClaim := { program := "ytjglpphfkkabnaadoor", sum := "7e1317a42a78a21caa4698154233d08bfc865efe8498b60abdac415a7a77aaf5", func := "caissa/caissalaw03.BoardHolds", spec := "boardHolds", inPlace := ["internal/abi.NoEscape", "internal/bytealg.MakeNoZero", "internal/bytealg.CountString", "internal/bytealg.IndexByteString", "internal/bytealg.IndexString"], unfollowed := true, recurses := true, named := ["caissa/piece.kinds", "unicode/utf8.first", "unicode/utf8.acceptRanges", "internal/bytealg.MaxLen"], apart := false, laid := [("caissa/piece.kinds", laid_caissa_piece_kinds), ("unicode/utf8.acceptRanges", laid_unicode_utf8_acceptRanges), ("unicode/utf8.first", laid_unicode_utf8_first)], narrowed := true }
def BoardHoldsUptoSaid : Prop := boardHoldsUptoRow.holds Tryd.pinned (OpenSpec.upto boardHoldsSpec)

/-- 'caissalaw03.BoardValid', WHERE WHAT IT READS IS OF BULK AT MOST 1048576: true; the input reads as it did. -/
def boardValidUptoRow : OpenClaim := { program := "ytjglpphfkkabnaadoor", sum := "7e1317a42a78a21caa4698154233d08bfc865efe8498b60abdac415a7a77aaf5", func := "caissa/caissalaw03.BoardValid", spec := "boardValid", inPlace := ["internal/abi.NoEscape", "internal/bytealg.MakeNoZero", "internal/bytealg.CountString", "internal/bytealg.IndexByteString", "internal/bytealg.IndexString"], unfollowed := true, recurses := true, named := ["caissa/piece.kinds", "unicode/utf8.first", "unicode/utf8.acceptRanges", "internal/bytealg.MaxLen"], apart := false, laid := [("caissa/piece.kinds", laid_caissa_piece_kinds), ("unicode/utf8.acceptRanges", laid_unicode_utf8_acceptRanges), ("unicode/utf8.first", laid_unicode_utf8_first)], narrowed := true }
def BoardValidUptoSaid : Prop := boardValidUptoRow.holds Tryd.pinned (OpenSpec.upto boardValidSpec)

end Rows
end Go.Proofs.YtjglpphfkkabnaaDoor
