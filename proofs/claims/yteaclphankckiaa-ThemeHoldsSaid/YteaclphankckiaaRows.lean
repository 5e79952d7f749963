/-
  No cell of these rows narrows 'for every input' (looked for: loops, veiled, ifaces, maps, wideKeys, modest, calm, conditions, laid).
  DERIVED. THE GIVEN ROWS OF THIS SEAT. 5 by the template 'for every input the law returns true; each argument reads behind the call as it read before'; 0 by the template 'total and deterministic' (their statements: YteaclphankckiaaTotals.lean).
  GIVEN WITH THE SEED: the statements are not yours to turn. If you find one false, say at which input.
  Laid BY PROGRAM, IN A SANDBOX (cutbox-rows.mjs): the forced cells as the released guide's own fill.sh prints them over the translation 33f835cf0ba83630… (all of the seat's roots in one cut). By AI agents, Wed Nov 11 2026. No macro, syntax, notation, axiom, sorry.
-/
import Derived.Test.YteaclphankckiaaChecked
import GoSem.Claim
import GoSem.ClaimJoined
import GoSem.ClaimMapViews
import Derived.JoinedTies
import Derived.KernelRfl
namespace Go.Proofs.Yteaclphankckiaa
/- THE CELL 'sum', in the pinned program and in every row, IS THE sha256 OF THE DUMP (.gsa) THAT YteaclphankckiaaProg.lean LOADS. Nothing in Lean hashes anything: it is a label: what it is worth is what the hold of that sum in a sandbox is worth. -/
noncomputable def Try.pinned : Pinned := { name := "yteaclphankckiaa", sum := "33f835cf0ba83630e73a721a99fbbbf1b5eb4c9164c60f50386f9843463b8b26", checked := Try.checked }
namespace Rows
def none {H : Type} : Left H := { results := [], args := [] }

/-- 'caissalaw35.ThemePaths': WHATEVER THE INPUT: true; the input reads as it did. -/
def themePathsSpec : ChangeSpec := { name := "themePaths", fn := fun _ => fun
  | [d1, d2, d3] => { results := [.lit (.bool true)], args := [d1, d2, d3] }
  | _ => none }
def themePathsRow : OpenClaim := { program := "yteaclphankckiaa", sum := "33f835cf0ba83630e73a721a99fbbbf1b5eb4c9164c60f50386f9843463b8b26", func := "caissa/caissalaw35.ThemePaths", spec := "themePaths", unfollowed := true, recurses := true, plainKeys := false, apart := false }
def ThemePathsSaid : Prop := themePathsRow.holds Try.pinned (OpenSpec.ofChange themePathsSpec)

/-- ITS FALSE NEIGHBOUR: 'it returns false'. Refute it at one input. -/
def themePathsWrong : ChangeSpec := { name := "themePaths", fn := fun _ => fun
  | [d1, d2, d3] => { results := [.lit (.bool false)], args := [d1, d2, d3] }
  | _ => none }
def ThemePathsWrongFalsely : Prop := themePathsRow.holds Try.pinned (OpenSpec.ofChange themePathsWrong)

/-- 'caissalaw35.ThemeFinds': WHATEVER THE INPUT: true; the input reads as it did. -/
def themeFindsSpec : ChangeSpec := { name := "themeFinds", fn := fun _ => fun
  | [d1, d2, d3] => { results := [.lit (.bool true)], args := [d1, d2, d3] }
  | _ => none }
def themeFindsRow : OpenClaim := { program := "yteaclphankckiaa", sum := "33f835cf0ba83630e73a721a99fbbbf1b5eb4c9164c60f50386f9843463b8b26", func := "caissa/caissalaw35.ThemeFinds", spec := "themeFinds", unfollowed := true, recurses := true, plainKeys := false, apart := false }
def ThemeFindsSaid : Prop := themeFindsRow.holds Try.pinned (OpenSpec.ofChange themeFindsSpec)

/-- ITS FALSE NEIGHBOUR: 'it returns false'. Refute it at one input. -/
def themeFindsWrong : ChangeSpec := { name := "themeFinds", fn := fun _ => fun
  | [d1, d2, d3] => { results := [.lit (.bool false)], args := [d1, d2, d3] }
  | _ => none }
def ThemeFindsWrongFalsely : Prop := themeFindsRow.holds Try.pinned (OpenSpec.ofChange themeFindsWrong)

/-- 'caissalaw35.ThemeNames': WHATEVER THE INPUT: true; the input reads as it did. -/
def themeNamesSpec : ChangeSpec := { name := "themeNames", fn := fun _ => fun
  | [d1, d2] => { results := [.lit (.bool true)], args := [d1, d2] }
  | _ => none }
def themeNamesRow : OpenClaim := { program := "yteaclphankckiaa", sum := "33f835cf0ba83630e73a721a99fbbbf1b5eb4c9164c60f50386f9843463b8b26", func := "caissa/caissalaw35.ThemeNames", spec := "themeNames", unfollowed := true, recurses := true, plainKeys := false, apart := false }
def ThemeNamesSaid : Prop := themeNamesRow.holds Try.pinned (OpenSpec.ofChange themeNamesSpec)

/-- ITS FALSE NEIGHBOUR: 'it returns false'. Refute it at one input. -/
def themeNamesWrong : ChangeSpec := { name := "themeNames", fn := fun _ => fun
  | [d1, d2] => { results := [.lit (.bool false)], args := [d1, d2] }
  | _ => none }
def ThemeNamesWrongFalsely : Prop := themeNamesRow.holds Try.pinned (OpenSpec.ofChange themeNamesWrong)

/-- 'caissalaw35.ThemeHolds': WHATEVER THE INPUT: true; the input reads as it did. -/
def themeHoldsSpec : ChangeSpec := { name := "themeHolds", fn := fun _ => fun
  | [d1, d2, d3, d4] => { results := [.lit (.bool true)], args := [d1, d2, d3, d4] }
  | _ => none }
def themeHoldsRow : OpenClaim := { program := "yteaclphankckiaa", sum := "33f835cf0ba83630e73a721a99fbbbf1b5eb4c9164c60f50386f9843463b8b26", func := "caissa/caissalaw35.ThemeHolds", spec := "themeHolds", unfollowed := true, recurses := true, plainKeys := false, apart := false }
def ThemeHoldsSaid : Prop := themeHoldsRow.holds Try.pinned (OpenSpec.ofChange themeHoldsSpec)

/-- ITS FALSE NEIGHBOUR: 'it returns false'. Refute it at one input. -/
def themeHoldsWrong : ChangeSpec := { name := "themeHolds", fn := fun _ => fun
  | [d1, d2, d3, d4] => { results := [.lit (.bool false)], args := [d1, d2, d3, d4] }
  | _ => none }
def ThemeHoldsWrongFalsely : Prop := themeHoldsRow.holds Try.pinned (OpenSpec.ofChange themeHoldsWrong)

/-- 'caissalaw35.ThemeHas': WHATEVER THE INPUT: true; the input reads as it did. -/
def themeHasSpec : ChangeSpec := { name := "themeHas", fn := fun _ => fun
  | [d1, d2, d3, d4] => { results := [.lit (.bool true)], args := [d1, d2, d3, d4] }
  | _ => none }
def themeHasRow : OpenClaim := { program := "yteaclphankckiaa", sum := "33f835cf0ba83630e73a721a99fbbbf1b5eb4c9164c60f50386f9843463b8b26", func := "caissa/caissalaw35.ThemeHas", spec := "themeHas", unfollowed := true, recurses := true, plainKeys := false, apart := false }
def ThemeHasSaid : Prop := themeHasRow.holds Try.pinned (OpenSpec.ofChange themeHasSpec)

/-- ITS FALSE NEIGHBOUR: 'it returns false'. Refute it at one input. -/
def themeHasWrong : ChangeSpec := { name := "themeHas", fn := fun _ => fun
  | [d1, d2, d3, d4] => { results := [.lit (.bool false)], args := [d1, d2, d3, d4] }
  | _ => none }
def ThemeHasWrongFalsely : Prop := themeHasRow.holds Try.pinned (OpenSpec.ofChange themeHasWrong)

/- THE SECOND FORM. 'bulk': how many values and letters a reading holds, each counted each time it is reached (what is shared counts as often as it is met; a slice's spare places count too). A statement '..UptoSaid' is the law's where the arguments, and the package variables that the reading takes, are together of bulk at most 1048576: NARROWER than '..Said'. Prove '..Said' where nothing that the law and all that it calls make is longer than what came in: it says more and counts as full. Else prove '..UptoSaid'. A law counts once. -/
mutual
def uptoBulk {H : Type} : DataW H → Nat
  | .lit (.string bytes) => bytes.length + 1
  | .lit _ => 1
  | .nil => 1
  | .ptr d => uptoBulk d + 1
  | .slice elems spare => uptoBulkAll elems + uptoBulkAll spare + 1
  | .agg parts => uptoBulkAll parts + 1
  | .iface _ d => uptoBulk d + 1
  | .map entries => uptoBulkEntries entries + 1
  | .held _ => 1
def uptoBulkAll {H : Type} : List (DataW H) → Nat
  | [] => 0
  | d :: r => uptoBulk d + uptoBulkAll r
def uptoBulkEntries {H : Type} : List (Lit × DataW H) → Nat
  | [] => 0
  | x :: r => uptoBulkEntry x + uptoBulkEntries r
def uptoBulkEntry {H : Type} : Lit × DataW H → Nat
  | (.string bytes, d) => bytes.length + uptoBulk d + 1
  | (_, d) => uptoBulk d + 1
 end
def uptoSmall : (H : Type) → List (DataW H) → Bool := fun _ ds => decide (uptoBulkAll ds ≤ 1048576)
def OpenSpec.upto (s : _root_.Go.ChangeSpec) : _root_.Go.OpenSpec := { _root_.Go.OpenSpec.ofChange s with cond := some uptoSmall }

/-- 'caissalaw35.ThemePaths', WHERE WHAT IT READS IS OF BULK AT MOST 1048576: true; the input reads as it did. -/
def themePathsUptoRow : OpenClaim := { program := "yteaclphankckiaa", sum := "33f835cf0ba83630e73a721a99fbbbf1b5eb4c9164c60f50386f9843463b8b26", func := "caissa/caissalaw35.ThemePaths", spec := "themePaths", unfollowed := true, recurses := true, plainKeys := false, apart := false, narrowed := true }
def ThemePathsUptoSaid : Prop := themePathsUptoRow.holds Try.pinned (OpenSpec.upto themePathsSpec)

/-- 'caissalaw35.ThemeFinds', WHERE WHAT IT READS IS OF BULK AT MOST 1048576: true; the input reads as it did. -/
def themeFindsUptoRow : OpenClaim := { program := "yteaclphankckiaa", sum := "33f835cf0ba83630e73a721a99fbbbf1b5eb4c9164c60f50386f9843463b8b26", func := "caissa/caissalaw35.ThemeFinds", spec := "themeFinds", unfollowed := true, recurses := true, plainKeys := false, apart := false, narrowed := true }
def ThemeFindsUptoSaid : Prop := themeFindsUptoRow.holds Try.pinned (OpenSpec.upto themeFindsSpec)

/-- 'caissalaw35.ThemeNames', WHERE WHAT IT READS IS OF BULK AT MOST 1048576: true; the input reads as it did. -/
def themeNamesUptoRow : OpenClaim := { program := "yteaclphankckiaa", sum := "33f835cf0ba83630e73a721a99fbbbf1b5eb4c9164c60f50386f9843463b8b26", func := "caissa/caissalaw35.ThemeNames", spec := "themeNames", unfollowed := true, recurses := true, plainKeys := false, apart := false, narrowed := true }
def ThemeNamesUptoSaid : Prop := themeNamesUptoRow.holds Try.pinned (OpenSpec.upto themeNamesSpec)

/-- 'caissalaw35.ThemeHolds', WHERE WHAT IT READS IS OF BULK AT MOST 1048576: true; the input reads as it did. -/
def themeHoldsUptoRow : OpenClaim := { program := "yteaclphankckiaa", sum := "33f835cf0ba83630e73a721a99fbbbf1b5eb4c9164c60f50386f9843463b8b26", func := "caissa/caissalaw35.ThemeHolds", spec := "themeHolds", unfollowed := true, recurses := true, plainKeys := false, apart := false, narrowed := true }
def ThemeHoldsUptoSaid : Prop := themeHoldsUptoRow.holds Try.pinned (OpenSpec.upto themeHoldsSpec)

/-- 'caissalaw35.ThemeHas', WHERE WHAT IT READS IS OF BULK AT MOST 1048576: true; the input reads as it did. -/
def themeHasUptoRow : OpenClaim := { program := "yteaclphankckiaa", sum := "33f835cf0ba83630e73a721a99fbbbf1b5eb4c9164c60f50386f9843463b8b26", func := "caissa/caissalaw35.ThemeHas", spec := "themeHas", unfollowed := true, recurses := true, plainKeys := false, apart := false, narrowed := true }
def ThemeHasUptoSaid : Prop := themeHasUptoRow.holds Try.pinned (OpenSpec.upto themeHasSpec)

end Rows
end Go.Proofs.Yteaclphankckiaa
