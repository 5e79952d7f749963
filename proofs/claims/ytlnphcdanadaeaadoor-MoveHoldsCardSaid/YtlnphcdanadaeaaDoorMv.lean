/- Layer 7: joining one more word; a move's text has no blank. -/
import Derived.Test.YtlnphcdanadaeaaDoorMs
import Derived.Test.YtlnphcdanadaeaaDoorMt
namespace Go.Proofs.YtlnphcdanadaeaaDoor
open Go.RowKit
set_option linter.unusedSimpArgs false
set_option linter.unusedVariables false

theorem join_snoc : ∀ (xs : List (List UInt8)) (y : List UInt8), xs ≠ [] → Lib.join (xs ++ [y]) [32] = Lib.join xs [32] ++ 32 :: y
  | [], _, h => absurd rfl h
  | [x], y, _ => by simp [Lib.join, List.intercalate]
  | x :: z :: l, y, _ => by
    have ih := join_snoc (z :: l) y (by simp)
    have e : ∀ m : List (List UInt8), Lib.join (x :: z :: m) [32] = x ++ 32 :: Lib.join (z :: m) [32] := fun m => by simp [Lib.join, List.intercalate]
    rw [List.cons_append, List.cons_append, e, ← List.cons_append, ih, e]
    simp
theorem joinB_one (y : ByteArray) : joinB [y] = y := by
  apply ba_eq
  simp [joinB, Lib.join, List.intercalate]
theorem joinB_snoc (xs : List ByteArray) (y : ByteArray) (h : xs ≠ []) : joinB (xs ++ [y]) = joinB xs ++ ⟨#[32]⟩ ++ y := by
  apply ba_eq
  show Lib.join ((xs ++ [y]).map (·.data.toList)) [32] = _
  rw [List.map_append, List.map_cons, List.map_nil, join_snoc _ _ (by simpa using h)]
  simp [joinB]
end Go.Proofs.YtlnphcdanadaeaaDoor
