/- Layer 35: '==' and '!=' of moves, nodes and themes that are shown. -/
import Derived.Test.YteaclphankckiaaTs
import Derived.Laws.StructEq
namespace Go.Proofs.Yteaclphankckiaa
open Go Go.RowKit
set_option linter.unusedSimpArgs false
set_option linter.unusedVariables false

/-- two moves are equal -/
def mvE (m m' : Mv) : Bool := decide (m = m')
theorem eqIn_mv (d : Nat) (a b c a' b' c' : Int) (w : World) : (Op.equalIn (d + 2) 57 (.agg #[.int .i64 a, .int .i64 b, .int .i8 c]) (.agg #[.int .i64 a', .int .i64 b', .int .i8 c'])).run Try.prog w = .ok (mvE (a, b, c) (a', b', c')) w := by
  have u3 := Try.underlying3
  have u4 := Try.underlying55
  have a3 := Try.isAgg3
  have a4 := Try.isAgg55
  have z3 := Try.sizeOf3
  have z4 := Try.sizeOf55
  have hS : Try.prog.underlying 57 = some (.struct (Try.prog.fieldsOf 57)) := by kernel_rfl
  have hp : Try.prog.stoodInHeld 57 = false := by kernel_rfl
  rw [show d + 2 = (d + 1) + 1 from rfl, run_equalIn_agg w (d + 1) 57 _ _ hS hp]
  simp only [Program.fieldsOf, Try.underlying57]
  unfold mvE
  go_simp
  by_cases h1 : a = a' <;> by_cases h2 : b = b' <;> by_cases h3 : c = c' <;> simp [h1, h2, h3]
theorem run_eql_mv (a b c a' b' c' : Int) (w : World) : (binOp .eql 57 (.agg #[.int .i64 a, .int .i64 b, .int .i8 c]) (.agg #[.int .i64 a', .int .i64 b', .int .i8 c'])).run Try.prog w = .ok (.bool (mvE (a, b, c) (a', b', c'))) w := by
  rw [run_eql_struct, show (10000 : Nat) = 9998 + 2 from rfl, eqIn_mv]
  rfl
/-- two nodes are equal -/
def ndE (x x' : Nd) : Bool := decide (x = x')
theorem eqIn_nd (d : Nat) (p a b c p' a' b' c' : Int) (w : World) : (Op.equalIn (d + 3) 59 (.agg #[.int .i64 p, .int .i64 a, .int .i64 b, .int .i8 c]) (.agg #[.int .i64 p', .int .i64 a', .int .i64 b', .int .i8 c'])).run Try.prog w = .ok (ndE (p, a, b, c) (p', a', b', c')) w := by
  have u3 := Try.underlying3
  have a3 := Try.isAgg3
  have a4 := Try.isAgg57
  have z3 := Try.sizeOf3
  have z4 := Try.sizeOf57
  have hS : Try.prog.underlying 59 = some (.struct (Try.prog.fieldsOf 59)) := by kernel_rfl
  have hp : Try.prog.stoodInHeld 59 = false := by kernel_rfl
  have hm := eqIn_mv d a b c a' b' c' w
  rw [show d + 3 = (d + 2) + 1 from rfl, run_equalIn_agg w (d + 2) 59 _ _ hS hp]
  simp only [Program.fieldsOf, Try.underlying59]
  unfold ndE
  unfold mvE at hm
  go_simp
  by_cases h1 : p = p' <;> by_cases h2 : a = a' <;> by_cases h3 : b = b' <;> by_cases h4 : c = c' <;> simp [h1, h2, h3, h4]
theorem run_neq_nd (p a b c p' a' b' c' : Int) (w : World) : (binOp .neq 59 (.agg #[.int .i64 p, .int .i64 a, .int .i64 b, .int .i8 c]) (.agg #[.int .i64 p', .int .i64 a', .int .i64 b', .int .i8 c'])).run Try.prog w = .ok (.bool (!(ndE (p, a, b, c) (p', a', b', c')))) w := by
  rw [run_neq_struct, show (10000 : Nat) = 9997 + 3 from rfl, eqIn_nd]
  rfl
/-- a theme that is shown, and where -/
abbrev Sh := Int × Int
def shE (x x' : Sh) : Bool := decide (x = x')
theorem eqIn_sh (d : Nat) (a b a' b' : Int) (w : World) : (Op.equalIn (d + 2) 52 (.agg #[.int .i64 a, .int .i64 b]) (.agg #[.int .i64 a', .int .i64 b'])).run Try.prog w = .ok (shE (a, b) (a', b')) w := by
  have u3 := Try.underlying3
  have u4 := Try.underlying42
  have a3 := Try.isAgg3
  have a4 := Try.isAgg42
  have z3 := Try.sizeOf3
  have z4 := Try.sizeOf42
  have hS : Try.prog.underlying 52 = some (.struct (Try.prog.fieldsOf 52)) := by kernel_rfl
  have hp : Try.prog.stoodInHeld 52 = false := by kernel_rfl
  rw [show d + 2 = (d + 1) + 1 from rfl, run_equalIn_agg w (d + 1) 52 _ _ hS hp]
  simp only [Program.fieldsOf, Try.underlying52]
  unfold shE
  go_simp
  by_cases h1 : a = a' <;> by_cases h2 : b = b' <;> simp [h1, h2]
theorem run_neq_sh (a b a' b' : Int) (w : World) : (binOp .neq 52 (.agg #[.int .i64 a, .int .i64 b]) (.agg #[.int .i64 a', .int .i64 b'])).run Try.prog w = .ok (.bool (!(shE (a, b) (a', b')))) w := by
  rw [run_neq_struct, show (10000 : Nat) = 9998 + 2 from rfl, eqIn_sh]
  rfl
theorem run_eql_sh (a b a' b' : Int) (w : World) : (binOp .eql 52 (.agg #[.int .i64 a, .int .i64 b]) (.agg #[.int .i64 a', .int .i64 b'])).run Try.prog w = .ok (.bool (shE (a, b) (a', b'))) w := by
  rw [run_eql_struct, show (10000 : Nat) = 9998 + 2 from rfl, eqIn_sh]
  rfl
theorem mvE_yes {m m' : Mv} (h : m = m') : mvE m m' = true := decide_eq_true h
theorem mvE_no {m m' : Mv} (h : m ≠ m') : mvE m m' = false := decide_eq_false h
end Go.Proofs.Yteaclphankckiaa
