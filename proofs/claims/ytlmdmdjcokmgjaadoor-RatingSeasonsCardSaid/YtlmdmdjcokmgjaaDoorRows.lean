/-
  NARROWER THAN 'FOR EVERY INPUT', by the rows' own cells (each row's printed sentence says how): RatingExpects: laid · RatingNexts: laid · RatingPerforms: laid · RatingHolds: laid · RatingSeasons: laid.
  DERIVED. THE GIVEN ROWS OF THIS SEAT. 5 by the template 'for every input the law returns true; each argument reads behind the call as it read before'; 0 by the template 'total and deterministic' (their statements: YtlmdmdjcokmgjaaDoorTotals.lean).
  GIVEN WITH THE SEED: the statements are not yours to turn. If you find one false, say at which input.
  Laid BY PROGRAM, IN A SANDBOX (cutbox-rows.mjs): the forced cells as the released guide's own fill.sh prints them over the translation 94e772f491f02bb0… (all of the seat's roots in one cut). By AI agents, Wed Nov 11 2026. No macro, syntax, notation, axiom, sorry.
-/
import Derived.Test.YtlmdmdjcokmgjaaDoorChecked
import GoSem.Claim
import GoSem.ClaimJoined
import GoSem.ClaimMapViews
import Derived.JoinedTies
import Derived.KernelRfl
namespace Go.Proofs.YtlmdmdjcokmgjaaDoor
/- THE CELL 'sum', in the pinned program and in every row, IS THE sha256 OF THE DUMP (.gsa) THAT YtlmdmdjcokmgjaaDoorProg.lean LOADS. Nothing in Lean hashes anything: it is a label: what it is worth is what the hold of that sum in a sandbox is worth. -/
noncomputable def Tryd.pinned : Pinned := { name := "ytlmdmdjcokmgjaadoor", sum := "94e772f491f02bb092160b9ccb488a846310b71add59e534e988cd31c5c14b80", checked := Tryd.checked }
namespace Rows
def none {H : Type} : Left H := { results := [], args := [] }

/- WHAT THE LISTED PACKAGE-LEVEL VARIABLES READ AS WHEN THE CALL BEGINS. Each datum BY PROGRAM (the guide's laid-datum.mjs) off the statement by which the dump's own 'gosem.cut.vars' lays the variable. In a bare row this is a premise. The card (YtlmdmdjcokmgjaaDoorCards.lean) ties it to the program's text. -/
def laid_caissa_rating_limits {H : Type} : DataW H := .agg [.lit (.int .i64 3), .lit (.int .i64 10), .lit (.int .i64 17), .lit (.int .i64 25), .lit (.int .i64 32), .lit (.int .i64 39), .lit (.int .i64 46), .lit (.int .i64 53), .lit (.int .i64 61), .lit (.int .i64 68), .lit (.int .i64 76), .lit (.int .i64 83), .lit (.int .i64 91), .lit (.int .i64 98), .lit (.int .i64 106), .lit (.int .i64 113), .lit (.int .i64 121), .lit (.int .i64 129), .lit (.int .i64 137), .lit (.int .i64 145), .lit (.int .i64 153), .lit (.int .i64 162), .lit (.int .i64 170), .lit (.int .i64 179), .lit (.int .i64 188), .lit (.int .i64 197), .lit (.int .i64 206), .lit (.int .i64 215), .lit (.int .i64 225), .lit (.int .i64 235), .lit (.int .i64 245), .lit (.int .i64 256), .lit (.int .i64 267), .lit (.int .i64 278), .lit (.int .i64 290), .lit (.int .i64 302), .lit (.int .i64 315), .lit (.int .i64 328), .lit (.int .i64 344), .lit (.int .i64 357), .lit (.int .i64 374), .lit (.int .i64 391)]

/-- 'caissalaw45.RatingExpects': WHATEVER THE INPUT: true; the input reads as it did. -/
def ratingExpectsSpec : ChangeSpec := { name := "ratingExpects", fn := fun _ => fun
  | [d1, d2] => { results := [.lit (.bool true)], args := [d1, d2] }
  | _ => none }
def ratingExpectsRow : OpenClaim := { program := "ytlmdmdjcokmgjaadoor", sum := "94e772f491f02bb092160b9ccb488a846310b71add59e534e988cd31c5c14b80", func := "caissa/caissalaw45.RatingExpects", spec := "ratingExpects", unfollowed := true, recurses := true, named := ["caissa/rating.limits"], apart := false, laid := [("caissa/rating.limits", laid_caissa_rating_limits)] }
def RatingExpectsSaid : Prop := ratingExpectsRow.holds Tryd.pinned (OpenSpec.ofChange ratingExpectsSpec)

/-- ITS FALSE NEIGHBOUR: 'it returns false'. Refute it at one input. -/
def ratingExpectsWrong : ChangeSpec := { name := "ratingExpects", fn := fun _ => fun
  | [d1, d2] => { results := [.lit (.bool false)], args := [d1, d2] }
  | _ => none }
def RatingExpectsWrongFalsely : Prop := ratingExpectsRow.holds Tryd.pinned (OpenSpec.ofChange ratingExpectsWrong)

/-- 'caissalaw45.RatingNexts': WHATEVER THE INPUT: true; the input reads as it did. -/
def ratingNextsSpec : ChangeSpec := { name := "ratingNexts", fn := fun _ => fun
  | [d1, d2, d3, d4] => { results := [.lit (.bool true)], args := [d1, d2, d3, d4] }
  | _ => none }
def ratingNextsRow : OpenClaim := { program := "ytlmdmdjcokmgjaadoor", sum := "94e772f491f02bb092160b9ccb488a846310b71add59e534e988cd31c5c14b80", func := "caissa/caissalaw45.RatingNexts", spec := "ratingNexts", unfollowed := true, recurses := true, named := ["caissa/rating.limits"], apart := false, laid := [("caissa/rating.limits", laid_caissa_rating_limits)] }
def RatingNextsSaid : Prop := ratingNextsRow.holds Tryd.pinned (OpenSpec.ofChange ratingNextsSpec)

/-- ITS FALSE NEIGHBOUR: 'it returns false'. Refute it at one input. -/
def ratingNextsWrong : ChangeSpec := { name := "ratingNexts", fn := fun _ => fun
  | [d1, d2, d3, d4] => { results := [.lit (.bool false)], args := [d1, d2, d3, d4] }
  | _ => none }
def RatingNextsWrongFalsely : Prop := ratingNextsRow.holds Tryd.pinned (OpenSpec.ofChange ratingNextsWrong)

/-- 'caissalaw45.RatingPerforms': WHATEVER THE INPUT: true; the input reads as it did. -/
def ratingPerformsSpec : ChangeSpec := { name := "ratingPerforms", fn := fun _ => fun
  | [d] => { results := [.lit (.bool true)], args := [d] }
  | _ => none }
def ratingPerformsRow : OpenClaim := { program := "ytlmdmdjcokmgjaadoor", sum := "94e772f491f02bb092160b9ccb488a846310b71add59e534e988cd31c5c14b80", func := "caissa/caissalaw45.RatingPerforms", spec := "ratingPerforms", unfollowed := true, recurses := true, named := ["caissa/rating.limits"], apart := false, laid := [("caissa/rating.limits", laid_caissa_rating_limits)] }
def RatingPerformsSaid : Prop := ratingPerformsRow.holds Tryd.pinned (OpenSpec.ofChange ratingPerformsSpec)

/-- ITS FALSE NEIGHBOUR: 'it returns false'. Refute it at one input. -/
def ratingPerformsWrong : ChangeSpec := { name := "ratingPerforms", fn := fun _ => fun
  | [d] => { results := [.lit (.bool false)], args := [d] }
  | _ => none }
def RatingPerformsWrongFalsely : Prop := ratingPerformsRow.holds Tryd.pinned (OpenSpec.ofChange ratingPerformsWrong)

/-- 'caissalaw45.RatingHolds': WHATEVER THE INPUT: true; the input reads as it did. -/
def ratingHoldsSpec : ChangeSpec := { name := "ratingHolds", fn := fun _ => fun
  | [d1, d2, d3, d4, d5] => { results := [.lit (.bool true)], args := [d1, d2, d3, d4, d5] }
  | _ => none }
def ratingHoldsRow : OpenClaim := { program := "ytlmdmdjcokmgjaadoor", sum := "94e772f491f02bb092160b9ccb488a846310b71add59e534e988cd31c5c14b80", func := "caissa/caissalaw45.RatingHolds", spec := "ratingHolds", unfollowed := true, recurses := true, named := ["caissa/rating.limits"], apart := false, laid := [("caissa/rating.limits", laid_caissa_rating_limits)] }
def RatingHoldsSaid : Prop := ratingHoldsRow.holds Tryd.pinned (OpenSpec.ofChange ratingHoldsSpec)

/-- ITS FALSE NEIGHBOUR: 'it returns false'. Refute it at one input. -/
def ratingHoldsWrong : ChangeSpec := { name := "ratingHolds", fn := fun _ => fun
  | [d1, d2, d3, d4, d5] => { results := [.lit (.bool false)], args := [d1, d2, d3, d4, d5] }
  | _ => none }
def RatingHoldsWrongFalsely : Prop := ratingHoldsRow.holds Tryd.pinned (OpenSpec.ofChange ratingHoldsWrong)

/-- 'caissalaw45.RatingSeasons': WHATEVER THE INPUT: true; the input reads as it did. -/
def ratingSeasonsSpec : ChangeSpec := { name := "ratingSeasons", fn := fun _ => fun
  | [d1, d2, d3, d4] => { results := [.lit (.bool true)], args := [d1, d2, d3, d4] }
  | _ => none }
def ratingSeasonsRow : OpenClaim := { program := "ytlmdmdjcokmgjaadoor", sum := "94e772f491f02bb092160b9ccb488a846310b71add59e534e988cd31c5c14b80", func := "caissa/caissalaw45.RatingSeasons", spec := "ratingSeasons", unfollowed := true, recurses := true, named := ["caissa/rating.limits"], apart := false, laid := [("caissa/rating.limits", laid_caissa_rating_limits)] }
def RatingSeasonsSaid : Prop := ratingSeasonsRow.holds Tryd.pinned (OpenSpec.ofChange ratingSeasonsSpec)

/-- ITS FALSE NEIGHBOUR: 'it returns false'. Refute it at one input. -/
def ratingSeasonsWrong : ChangeSpec := { name := "ratingSeasons", fn := fun _ => fun
  | [d1, d2, d3, d4] => { results := [.lit (.bool false)], args := [d1, d2, d3, d4] }
  | _ => none }
def RatingSeasonsWrongFalsely : Prop := ratingSeasonsRow.holds Tryd.pinned (OpenSpec.ofChange ratingSeasonsWrong)

/- THE SECOND FORM. 'bulk': how many values and letters a reading holds, each counted each time it is reached (what is shared counts as often as it is met; a slice's spare places count too). A statement '..UptoSaid' is the law's where the arguments, and the package variables that the reading takes, are together of bulk at most 1048576: NARROWER than '..Said'. Prove '..Said' where nothing that the law and all that it calls make is longer than what came in: it says more and counts as full. Else prove '..UptoSaid'. A law counts once. -/
mutual
def uptoBulk {H : Type} : DataW H → Nat
  | .lit (.string bytes) => bytes.length + 1
  | .lit _ => 1
  | .nil => 1
  | .ptr d => uptoBulk d + 1
  | .slice elems spare => uptoBulkAll elems + uptoBulkAll spare + 1
  | .agg parts => uptoBulkAll parts + 1
  | .iface _ d => uptoBulk d + 1
  | .map entries => uptoBulkEntries entries + 1
  | .held _ => 1
def uptoBulkAll {H : Type} : List (DataW H) → Nat
  | [] => 0
  | d :: r => uptoBulk d + uptoBulkAll r
def uptoBulkEntries {H : Type} : List (Lit × DataW H) → Nat
  | [] => 0
  | x :: r => uptoBulkEntry x + uptoBulkEntries r
def uptoBulkEntry {H : Type} : Lit × DataW H → Nat
  | (.string bytes, d) => bytes.length + uptoBulk d + 1
  | (_, d) => uptoBulk d + 1
 end
def uptoSmall : (H : Type) → List (DataW H) → Bool := fun _ ds => decide (uptoBulkAll ds ≤ 1048576)
def OpenSpec.upto (s : _root_.Go.ChangeSpec) : _root_.Go.OpenSpec := { _root_.Go.OpenSpec.ofChange s with cond := some uptoSmall }

/-- 'caissalaw45.RatingExpects', WHERE WHAT IT READS IS OF BULK AT MOST 1048576: true; the input reads as it did. -/
def ratingExpectsUptoRow : OpenClaim := { program := "ytlmdmdjcokmgjaadoor", sum := "94e772f491f02bb092160b9ccb488a846310b71add59e534e988cd31c5c14b80", func := "caissa/caissalaw45.RatingExpects", spec := "ratingExpects", unfollowed := true, recurses := true, named := ["caissa/rating.limits"], apart := false, laid := [("caissa/rating.limits", laid_caissa_rating_limits)], narrowed := true }
def RatingExpectsUptoSaid : Prop := ratingExpectsUptoRow.holds Tryd.pinned (OpenSpec.upto ratingExpectsSpec)

/-- 'caissalaw45.RatingNexts', WHERE WHAT IT READS IS OF BULK AT MOST 1048576: true; the input reads as it did. -/
def ratingNextsUptoRow : OpenClaim := { program := "ytlmdmdjcokmgjaadoor", sum := "94e772f491f02bb092160b9ccb488a846310b71add59e534e988cd31c5c14b80", func := "caissa/caissalaw45.RatingNexts", spec := "ratingNexts", unfollowed := true, recurses := true, named := ["caissa/rating.limits"], apart := false, laid := [("caissa/rating.limits", laid_caissa_rating_limits)], narrowed := true }
def RatingNextsUptoSaid : Prop := ratingNextsUptoRow.holds Tryd.pinned (OpenSpec.upto ratingNextsSpec)

/-- 'caissalaw45.RatingPerforms', WHERE WHAT IT READS IS OF BULK AT MOST 1048576: true; the input reads as it did. -/
def ratingPerformsUptoRow : OpenClaim := { program := "ytlmdmdjcokmgjaadoor", sum := "94e772f491f02bb092160b9ccb488a846310b71add59e534e988cd31c5c14b80", func := "caissa/caissalaw45.RatingPerforms", spec := "ratingPerforms", unfollowed := true, recurses := true, named := ["caissa/rating.limits"], apart := false, laid := [("caissa/rating.limits", laid_caissa_rating_limits)], narrowed := true }
def RatingPerformsUptoSaid : Prop := ratingPerformsUptoRow.holds Tryd.pinned (OpenSpec.upto ratingPerformsSpec)

/-- 'caissalaw45.RatingHolds', WHERE WHAT IT READS IS OF BULK AT MOST 1048576: true; the input reads as it did. -/
def ratingHoldsUptoRow : OpenClaim := { program := "ytlmdmdjcokmgjaadoor", sum := "94e772f491f02bb092160b9ccb488a846310b71add59e534e988cd31c5c14b80", func := "caissa/caissalaw45.RatingHolds", spec := "ratingHolds", unfollowed := true, recurses := true, named := ["caissa/rating.limits"], apart := false, laid := [("caissa/rating.limits", laid_caissa_rating_limits)], narrowed := true }
def RatingHoldsUptoSaid : Prop := ratingHoldsUptoRow.holds Tryd.pinned (OpenSpec.upto ratingHoldsSpec)

/-- 'caissalaw45.RatingSeasons', WHERE WHAT IT READS IS OF BULK AT MOST 1048576: true; the input reads as it did. -/
def ratingSeasonsUptoRow : OpenClaim := { program := "ytlmdmdjcokmgjaadoor", sum := "94e772f491f02bb092160b9ccb488a846310b71add59e534e988cd31c5c14b80", func := "caissa/caissalaw45.RatingSeasons", spec := "ratingSeasons", unfollowed := true, recurses := true, named := ["caissa/rating.limits"], apart := false, laid := [("caissa/rating.limits", laid_caissa_rating_limits)], narrowed := true }
def RatingSeasonsUptoSaid : Prop := ratingSeasonsUptoRow.holds Tryd.pinned (OpenSpec.upto ratingSeasonsSpec)

end Rows
end Go.Proofs.YtlmdmdjcokmgjaaDoor
