/- The contracts of piece's functions: what each of them returns. -/
import Derived.Test.YtmlbaghbdhogpaaDoorRows
import Derived.Test.YtmlbaghbdhogpaaDoorPlain
import Derived.Lib.Hide
import Derived.WalkSpells
import Derived.WalkLawsBesides
import Derived.Outline
namespace Go.Proofs.YtmlbaghbdhogpaaDoor
open Go.RowKit
set_option linter.unusedSimpArgs false
set_option linter.unusedVariables false

theorem pvalid_yes (p : Int) (w : World) (h1 : -15 ≤ p) (h2 : p ≤ 15) : Calls Tryd.prog 11 #[.int .i8 p] w fun e w' => e = .returned (.bool true) ∧ w = w' := by
  go_enter Tryd.func11, Tryd.ntmps11
  go_wp2
  go_ret
  exact ⟨rfl, rfl⟩
theorem pvalid_no (p : Int) (w : World) (h : p < -15 ∨ 15 < p) : Calls Tryd.prog 11 #[.int .i8 p] w fun e w' => e = .returned (.bool false) ∧ w = w' := by
  rcases h with h | h
  · go_enter Tryd.func11, Tryd.ntmps11
    go_wp2
    go_ret
    exact ⟨rfl, rfl⟩
  · have h' : -15 ≤ p := by omega
    go_enter Tryd.func11, Tryd.ntmps11
    go_wp2
    go_ret
    exact ⟨rb (by simp; omega), rfl⟩
theorem rvalid_yes (p : Int) (w : World) (h1 : -15 ≤ p) (h2 : p ≤ 15) : Calls Tryd.prog 12 #[.int .i8 p] w fun e w' => e = .returned (.bool true) ∧ w = w' := by
  go_enter Tryd.func12, Tryd.ntmps12
  go_wp2
  go_ret
  exact ⟨rfl, rfl⟩
theorem rvalid_no (p : Int) (w : World) (h : p < -15 ∨ 15 < p) : Calls Tryd.prog 12 #[.int .i8 p] w fun e w' => e = .returned (.bool false) ∧ w = w' := by
  rcases h with h | h
  · go_enter Tryd.func12, Tryd.ntmps12
    go_wp2
    go_ret
    exact ⟨rfl, rfl⟩
  · have h' : -15 ≤ p := by omega
    go_enter Tryd.func12, Tryd.ntmps12
    go_wp2
    go_ret
    exact ⟨rb (by simp; omega), rfl⟩

/-- whether a piece is orthodox -/
def orthoB (p : Int) : Bool := decide (p ≠ 0 ∧ -6 ≤ p ∧ p ≤ 6)
theorem porth (p : Int) (w : World) : Calls Tryd.prog 13 #[.int .i8 p] w fun e w' => e = .returned (.bool (orthoB p)) ∧ w = w' := by
  by_cases h0 : p = 0
  · subst h0
    go_enter Tryd.func13, Tryd.ntmps13
    go_wp2
    go_ret
    exact ⟨rfl, rfl⟩
  · have h0' : (p != 0) = true := by simpa using h0
    go_enter Tryd.func13, Tryd.ntmps13
    go_wp2
    all_goals
      go_ret
      exact ⟨rb (by unfold orthoB; first | (rw [decide_eq_decide]; omega) | (symm; simp; omega)), rfl⟩
theorem rorth (p : Int) (w : World) : Calls Tryd.prog 14 #[.int .i8 p] w fun e w' => e = .returned (.bool (orthoB p)) ∧ w = w' := by
  by_cases h0 : p = 0
  · subst h0
    go_enter Tryd.func14, Tryd.ntmps14
    go_wp2
    go_ret
    exact ⟨rfl, rfl⟩
  · have h0' : (p != 0) = true := by simpa using h0
    go_enter Tryd.func14, Tryd.ntmps14
    go_wp2
    all_goals
      go_ret
      exact ⟨rb (by unfold orthoB; first | (rw [decide_eq_decide]; omega) | (symm; simp; omega)), rfl⟩

theorem pabs (p : Int) (w : World) (h1 : -15 ≤ p) (h2 : p ≤ 15) : Calls Tryd.prog 30 #[.int .i8 p] w fun e w' => e = .returned (.int .i8 (p.natAbs : Int)) ∧ w = w' := by
  go_enter Tryd.func30, Tryd.ntmps30
  go_wp2
  all_goals
    go_ret
    exact ⟨ri (by omega), rfl⟩
theorem rkind (p : Int) (w : World) (h1 : -15 ≤ p) (h2 : p ≤ 15) : Calls Tryd.prog 16 #[.int .i8 p] w fun e w' => e = .returned (.int .i8 (p.natAbs : Int)) ∧ w = w' := by
  go_enter Tryd.func16, Tryd.ntmps16
  go_wp2
  all_goals
    go_ret
    exact ⟨ri (by omega), rfl⟩
theorem pkind_yes (p : Int) (w : World) (h1 : -15 ≤ p) (h2 : p ≤ 15) : Calls Tryd.prog 8 #[.int .i8 p] w fun e w' => e = .returned (.tuple #[.int .i8 (p.natAbs : Int), .int .i64 0]) ∧ w = w' := by
  go_enter Tryd.func8, Tryd.ntmps8
  go_wp2_with (first | (go_at_call 11; refine (pvalid_yes _ _ h1 h2).mono ?_; rintro e w' ⟨rfl, rfl⟩) | (go_at_call 30; refine (pabs _ _ h1 h2).mono ?_; rintro e w' ⟨rfl, rfl⟩))
  go_ret2
  exact ⟨rfl, rfl⟩
theorem pkind_no (p : Int) (w : World) (h : p < -15 ∨ 15 < p) : Calls Tryd.prog 8 #[.int .i8 p] w fun e w' => e = .returned (.tuple #[.int .i8 0, .int .i64 2]) ∧ w = w' := by
  go_enter Tryd.func8, Tryd.ntmps8
  go_wp2_with (first | (go_at_call 11; refine (pvalid_no _ _ h).mono ?_; rintro e w' ⟨rfl, rfl⟩))
  go_ret2
  exact ⟨rfl, rfl⟩

theorem pside_yes (p : Int) (w : World) (h1 : -15 ≤ p) (h2 : p ≤ 15) : Calls Tryd.prog 9 #[.int .i8 p] w fun e w' => e = .returned (.tuple #[.int .i64 p.sign, .int .i64 0]) ∧ w = w' := by
  rcases Int.lt_trichotomy p 0 with h | h | h
  · have hs := Int.sign_eq_neg_one_of_neg h
    go_enter Tryd.func9, Tryd.ntmps9
    go_wp2_with (first | (go_at_call 11; refine (pvalid_yes _ _ h1 h2).mono ?_; rintro e w' ⟨rfl, rfl⟩))
    go_ret2
    exact ⟨by rw [hs]; rfl, rfl⟩
  · subst h
    go_enter Tryd.func9, Tryd.ntmps9
    go_wp2_with (first | (go_at_call 11; refine (pvalid_yes _ _ h1 h2).mono ?_; rintro e w' ⟨rfl, rfl⟩))
    go_ret2
    exact ⟨rfl, rfl⟩
  · have hs := Int.sign_eq_one_of_pos h
    go_enter Tryd.func9, Tryd.ntmps9
    go_wp2_with (first | (go_at_call 11; refine (pvalid_yes _ _ h1 h2).mono ?_; rintro e w' ⟨rfl, rfl⟩))
    go_ret2
    exact ⟨by rw [hs]; rfl, rfl⟩
theorem pside_no (p : Int) (w : World) (h : p < -15 ∨ 15 < p) : Calls Tryd.prog 9 #[.int .i8 p] w fun e w' => e = .returned (.tuple #[.int .i64 0, .int .i64 2]) ∧ w = w' := by
  go_enter Tryd.func9, Tryd.ntmps9
  go_wp2_with (first | (go_at_call 11; refine (pvalid_no _ _ h).mono ?_; rintro e w' ⟨rfl, rfl⟩))
  go_ret2
  exact ⟨rfl, rfl⟩
theorem rside (p : Int) (w : World) : Calls Tryd.prog 17 #[.int .i8 p] w fun e w' => e = .returned (.int .i64 p.sign) ∧ w = w' := by
  rcases Int.lt_trichotomy p 0 with h | h | h
  · have hs := Int.sign_eq_neg_one_of_neg h
    go_enter Tryd.func17, Tryd.ntmps17
    go_wp2
    go_ret
    exact ⟨by rw [hs]; rfl, rfl⟩
  · subst h
    go_enter Tryd.func17, Tryd.ntmps17
    go_wp2
    go_ret
    exact ⟨rfl, rfl⟩
  · have hs := Int.sign_eq_one_of_pos h
    go_enter Tryd.func17, Tryd.ntmps17
    go_wp2
    go_ret
    exact ⟨by rw [hs]; rfl, rfl⟩
end Go.Proofs.YtmlbaghbdhogpaaDoor
