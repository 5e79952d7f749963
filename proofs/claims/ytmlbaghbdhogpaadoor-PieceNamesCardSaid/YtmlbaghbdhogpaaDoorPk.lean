/- The examples of the chapter. -/
import Derived.Test.YtmlbaghbdhogpaaDoorPh
namespace Go.Proofs.YtmlbaghbdhogpaaDoor
open Go.RowKit
set_option linter.unusedSimpArgs false
set_option linter.unusedVariables false

theorem k_kind (w : World) (hk : KindsAt w) (a0 : Int) (h0 : a0 = -5) : Calls Tryd.prog 8 #[.int .i8 a0] w fun e w' => e = .returned (.tuple #[.int .i8 5, .int .i64 0]) ∧ w = w' := by subst h0; exact pkind_yes (-5) w (by decide) (by decide)
theorem k_side (w : World) (hk : KindsAt w) (a0 : Int) (h0 : a0 = -5) : Calls Tryd.prog 9 #[.int .i8 a0] w fun e w' => e = .returned (.tuple #[.int .i64 (-1), .int .i64 0]) ∧ w = w' := by subst h0; exact pside_yes (-5) w (by decide) (by decide)
theorem k_make (w : World) (hk : KindsAt w) (a0 : Int) (h0 : a0 = 5) (a1 : Bool) (h1 : a1 = true) : Calls Tryd.prog 19 #[.int .i8 a0, .bool a1] w fun e w' => e = .returned (.tuple #[.int .i8 (-5), .int .i64 0]) ∧ w = w' := by subst h0; subst h1; exact pmake_yes 5 true w (by decide) (by decide)
theorem k_valid1 (w : World) (hk : KindsAt w) (a0 : Int) (h0 : a0 = 16) : Calls Tryd.prog 11 #[.int .i8 a0] w fun e w' => e = .returned (.bool false) ∧ w = w' := by subst h0; exact pvalid_no 16 w (by decide)
theorem k_valid2 (w : World) (hk : KindsAt w) (a0 : Int) (h0 : a0 = -15) : Calls Tryd.prog 11 #[.int .i8 a0] w fun e w' => e = .returned (.bool true) ∧ w = w' := by subst h0; exact pvalid_yes (-15) w (by decide) (by decide)
theorem k_orth (w : World) (hk : KindsAt w) (a0 : Int) (h0 : a0 = 7) : Calls Tryd.prog 13 #[.int .i8 a0] w fun e w' => e = .returned (.bool false) ∧ w = w' := by subst h0; exact porth 7 w
theorem k_letter1 (w : World) (hk : KindsAt w) (a0 : Int) (h0 : a0 = -2) : Calls Tryd.prog 22 #[.int .i8 a0] w fun e w' => e = .returned (.tuple #[.int .u8 110, .int .i64 0]) ∧ w = w' := by subst h0; exact pletter_neg (-2) w hk (by decide) (by decide)
theorem k_letter2 (w : World) (hk : KindsAt w) (a0 : Int) (h0 : a0 = 7) : Calls Tryd.prog 22 #[.int .i8 a0] w fun e w' => e = .returned (.tuple #[.int .u8 65, .int .i64 0]) ∧ w = w' := by subst h0; exact pletter_pos 7 w hk (by decide) (by decide)
theorem k_letter3 (w : World) (hk : KindsAt w) (a0 : Int) (h0 : a0 = 0) : Calls Tryd.prog 22 #[.int .i8 a0] w fun e w' => e = .returned (.tuple #[.int .u8 0, .int .i64 2]) ∧ w = w' := by subst h0; exact pletter_zero w
theorem k_parse1 (w : World) (hk : KindsAt w) (a0 : Int) (h0 : a0 = 107) : Calls Tryd.prog 24 #[.int .u8 a0] w fun e w' => e = .returned (.tuple #[.int .i8 (-6), .int .i64 0]) ∧ w = w' := by subst h0; exact pparse 107 w hk (by decide) (by decide)
theorem k_parse2 (w : World) (hk : KindsAt w) (a0 : Int) (h0 : a0 = 76) : Calls Tryd.prog 24 #[.int .u8 a0] w fun e w' => e = .returned (.tuple #[.int .i8 0, .int .i64 6]) ∧ w = w' := by subst h0; exact pparse 76 w hk (by decide) (by decide)
theorem k_value (w : World) (hk : KindsAt w) (a0 : Int) (h0 : a0 = -4) : Calls Tryd.prog 10 #[.int .i8 a0] w fun e w' => e = .returned (.tuple #[.int .i64 5, .int .i64 0]) ∧ w = w' := by subst h0; exact pvalue_yes (-4) w hk (by decide) (by decide)
theorem k_name (w : World) (hk : KindsAt w) (a0 : Int) (h0 : a0 = 3) : Calls Tryd.prog 20 #[.int .i8 a0] w fun e w' => e = .returned (.tuple #[.string ⟨#[98, 105, 115, 104, 111, 112]⟩, .int .i64 0]) ∧ w = w' := by subst h0; exact pname_3 w hk
theorem k_find1 (w : World) (hk : KindsAt w) (a0 : ByteArray) (h0 : a0 = ⟨#[102, 97, 105, 114, 121, 45, 106]⟩) : Calls Tryd.prog 26 #[.string a0] w fun e w' => e = .returned (.tuple #[.int .i8 15, .int .i64 0]) ∧ w = w' := by subst h0; exact pfind_j w hk
theorem k_find2 (w : World) (hk : KindsAt w) (a0 : ByteArray) (h0 : a0 = ⟨#[82, 111, 111, 107]⟩) : Calls Tryd.prog 26 #[.string a0] w fun e w' => e = .returned (.tuple #[.int .i8 0, .int .i64 6]) ∧ w = w' := by subst h0; exact pfind_rook w hk

set_option maxRecDepth 100000 in
set_option maxHeartbeats 4000000 in
theorem pknown (w : World) (hk : KindsAt w) : Calls Tryd.prog 15 #[] w fun e w' => e = .returned (.bool true) ∧ w = w' := by
  have hkH := Lib.hid hk
  clear hk
  go_enter Tryd.func15, Tryd.ntmps15
  go_wp2_with (first
    | (go_at_call 8; refine (k_kind _ hkH.out _ (by decide)).mono ?_; rintro e w' ⟨rfl, rfl⟩)
    | (go_at_call 9; refine (k_side _ hkH.out _ (by decide)).mono ?_; rintro e w' ⟨rfl, rfl⟩)
    | (go_at_call 19; refine (k_make _ hkH.out _ (by decide) _ (by decide)).mono ?_; rintro e w' ⟨rfl, rfl⟩)
    | (go_at_call 11; refine (k_valid1 _ hkH.out _ (by decide)).mono ?_; rintro e w' ⟨rfl, rfl⟩)
    | (go_at_call 11; refine (k_valid2 _ hkH.out _ (by decide)).mono ?_; rintro e w' ⟨rfl, rfl⟩)
    | (go_at_call 13; refine (k_orth _ hkH.out _ (by decide)).mono ?_; rintro e w' ⟨rfl, rfl⟩)
    | (go_at_call 22; refine (k_letter1 _ hkH.out _ (by decide)).mono ?_; rintro e w' ⟨rfl, rfl⟩)
    | (go_at_call 22; refine (k_letter2 _ hkH.out _ (by decide)).mono ?_; rintro e w' ⟨rfl, rfl⟩)
    | (go_at_call 22; refine (k_letter3 _ hkH.out _ (by decide)).mono ?_; rintro e w' ⟨rfl, rfl⟩)
    | (go_at_call 24; refine (k_parse1 _ hkH.out _ (by decide)).mono ?_; rintro e w' ⟨rfl, rfl⟩)
    | (go_at_call 24; refine (k_parse2 _ hkH.out _ (by decide)).mono ?_; rintro e w' ⟨rfl, rfl⟩)
    | (go_at_call 10; refine (k_value _ hkH.out _ (by decide)).mono ?_; rintro e w' ⟨rfl, rfl⟩)
    | (go_at_call 20; refine (k_name _ hkH.out _ (by decide)).mono ?_; rintro e w' ⟨rfl, rfl⟩)
    | (go_at_call 26; refine (k_find1 _ hkH.out _ (by decide)).mono ?_; rintro e w' ⟨rfl, rfl⟩)
    | (go_at_call 26; refine (k_find2 _ hkH.out _ (by decide)).mono ?_; rintro e w' ⟨rfl, rfl⟩))
  go_ret
  exact ⟨rfl, rfl⟩
end Go.Proofs.YtmlbaghbdhogpaaDoor
