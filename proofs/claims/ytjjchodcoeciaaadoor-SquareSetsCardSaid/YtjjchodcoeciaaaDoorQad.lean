/- Layer 1: the square with the name of a square. -/
import Derived.Test.YtjjchodcoeciaaaDoorQac
namespace Go.Proofs.YtjjchodcoeciaaaDoor
open Go.RowKit
set_option linter.unusedSimpArgs false
set_option linter.unusedVariables false

theorem pparse_nm (f r a : Int) (w : World) (ha : sqB f r a = true) : Calls Tryd.prog 26 #[.agg #[.int .i64 f, .int .i64 r], .string (nm (a % f) (a / f))] w fun e w' => e = .returned (.tuple #[.int .i64 a, .int .i64 0]) ∧ Below w.heap.size w w' := by
  have hs := (sqB_out ha).1
  obtain ⟨f0, f1, r0, r1⟩ := szB_out hs
  obtain ⟨d0, d1, d2, d3, d4⟩ := place_bd ha
  have h0 : 0 < (nm (a % f) (a / f)).size := Nat.zero_lt_succ 1
  have h1 : 1 < (nm (a % f) (a / f)).size := Nat.lt_succ_self 1
  obtain ⟨e0, e1⟩ := nm_out h0 h1 ⟨d0, by omega⟩ ⟨d2, by omega⟩ rfl
  have h := pparse_yes f r (nm (a % f) (a / f)) w hs h0 h1 (Nat.le_refl 2) (by rw [← e0, ← e1]; exact sq_on ha)
  have g0 : (((nm (a % f) (a / f))[0]'h0).toNat : Int) = a % f + 97 := by omega
  have g1 : (((nm (a % f) (a / f))[1]'h1).toNat : Int) = a / f + 49 := by omega
  have hv : a % f + 97 - ((97 : Nat) : Int) + (a / f + 49 - 49) * f = a := by
    rw [show a / f + 49 - 49 = a / f by omega]; omega
  rw [g0, g1, hv] at h
  exact h
theorem pat_place (f r a : Int) (w : World) (ha : sqB f r a = true) : Calls Tryd.prog 19 #[.agg #[.int .i64 f, .int .i64 r], .int .i64 (a % f), .int .i64 (a / f)] w fun e w' => e = .returned (.tuple #[.int .i64 a, .int .i64 0]) ∧ Below w.heap.size w w' := by
  have h := pat_yes f r (a % f) (a / f) w (sqB_out ha).1 (sq_on ha)
  rw [(place_bd ha).2.2.2.2] at h
  exact h
end Go.Proofs.YtjjchodcoeciaaaDoor
