/- The theorem of stage 2, walked. -/
import Derived.Test.YtmlbaghbdhogpaaDoorPl
namespace Go.Proofs.YtmlbaghbdhogpaaDoor
open Go.RowKit
set_option linter.unusedSimpArgs false
set_option linter.unusedVariables false

theorem finV_nam (k : Nat) (h : k < 15) : finV (ByteArray.mk (namAt k).toArray).toList = k + 1 := by rw [ByteArray.toList_eq]; exact finV_at k h
theorem givV_nam (k : Nat) (h : k < 15) : givV (ByteArray.mk (namAt k).toArray) = true := by
  unfold givV
  obtain rfl | rfl | rfl | rfl | rfl | rfl | rfl | rfl | rfl | rfl | rfl | rfl | rfl | rfl | rfl : k = 0 ∨ k = 1 ∨ k = 2 ∨ k = 3 ∨ k = 4 ∨ k = 5 ∨ k = 6 ∨ k = 7 ∨ k = 8 ∨ k = 9 ∨ k = 10 ∨ k = 11 ∨ k = 12 ∨ k = 13 ∨ k = 14 := by omega
  all_goals decide
theorem nam_size (k : Nat) : (ByteArray.mk (namAt k).toArray).size ≤ maxLen := by
  by_cases h : k < 15
  · have : ∀ k, k < 15 → (ByteArray.mk (namAt k).toArray).size ≤ 100 := by decide
    exact Nat.le_trans (this k h) (by unfold maxLen; omega)
  · have e : namAt k = [] := by unfold namAt nams; simp [List.getD, h]
    rw [e]; exact Nat.zero_le _

theorem pfindn (k n : Int) (w : World) (hk : KindsAt w) (h1 : 1 ≤ k) (h2 : k ≤ 15) : Calls Tryd.prog 26 #[.string ⟨(namAt (k.toNat - 1)).toArray⟩] w fun e w' => e = .returned (.tuple #[.int .i8 k, .int .i64 0]) ∧ w = w' := by
  have h := pfind ⟨(namAt (k.toNat - 1)).toArray⟩ w hk
  rw [finV_nam _ (by omega), show (((k.toNat - 1 : Nat) : Int) + 1) = k by omega, noE_of (by omega)] at h
  exact h
theorem pvnamen (k : Int) (w : World) (h1 : 1 ≤ k) (h2 : k ≤ 15) : Calls Tryd.prog 27 #[.string ⟨(namAt (k.toNat - 1)).toArray⟩] w fun e w' => e = .returned (.bool true) ∧ w = w' := by
  have h := pvname ⟨(namAt (k.toNat - 1)).toArray⟩ w (nam_size _)
  rw [givV_nam _ (by omega)] at h
  exact h
theorem pparsel (p : Int) (w : World) (hk : KindsAt w) (h1 : -15 ≤ p) (h2 : p ≤ 15) (h0 : p ≠ 0) : Calls Tryd.prog 24 #[.int .u8 (letV p)] w fun e w' => e = .returned (.tuple #[.int .i8 p, .int .i64 0]) ∧ w = w' := by
  have hb := letV_bd p
  have h := pparse (letV p) w hk hb.1 (by omega)
  rw [parV_let p h1 h2 h0, noE_of h0] at h
  exact h
theorem pkindn (p n : Int) (w : World) (h1 : -15 ≤ p) (h2 : p ≤ 15) (hn : (p.natAbs : Int) = n) : Calls Tryd.prog 8 #[.int .i8 p] w fun e w' => e = .returned (.tuple #[.int .i8 n, .int .i64 0]) ∧ w = w' := by
  subst hn; exact pkind_yes p w h1 h2
theorem psiden (p n : Int) (w : World) (h1 : -15 ≤ p) (h2 : p ≤ 15) (hn : p.sign = n) : Calls Tryd.prog 9 #[.int .i8 p] w fun e w' => e = .returned (.tuple #[.int .i64 n, .int .i64 0]) ∧ w = w' := by
  subst hn; exact pside_yes p w h1 h2
theorem pvaluen (p n : Int) (w : World) (hk : KindsAt w) (h1 : -15 ≤ p) (h2 : p ≤ 15) (hn : valV p = n) : Calls Tryd.prog 10 #[.int .i8 p] w fun e w' => e = .returned (.tuple #[.int .i64 n, .int .i64 0]) ∧ w = w' := by
  subst hn; exact pvalue_yes p w hk h1 h2

theorem psideP (p : Int) (w : World) (h1 : 1 ≤ p) (h2 : p ≤ 15) : Calls Tryd.prog 9 #[.int .i8 p] w fun e w' => e = .returned (.tuple #[.int .i64 1, .int .i64 0]) ∧ w = w' := psiden p 1 w (by omega) h2 (Int.sign_eq_one_of_pos (by omega))
theorem psideN (p : Int) (w : World) (h1 : -15 ≤ p) (h2 : p < 0) : Calls Tryd.prog 9 #[.int .i8 p] w fun e w' => e = .returned (.tuple #[.int .i64 (-1), .int .i64 0]) ∧ w = w' := psiden p (-1) w h1 (by omega) (Int.sign_eq_neg_one_of_neg (by omega))
theorem valV_same (q p : Int) (h : q = p ∨ q = -p) : valV q = valV p := by
  rcases h with rfl | rfl
  · rfl
  · exact valV_neg p

set_option maxRecDepth 100000 in
set_option maxHeartbeats 4000000 in
theorem law_holds (p : Int) (w : World) (hk : KindsAt w) : Calls Tryd.prog 7 #[.int .i8 p] w fun e w' => e = .returned (.bool true) ∧ Below w.heap.size w w' := by
  have hkH := Lib.hid hk
  clear hk
  rcases (by omega : p = 0 ∨ (1 ≤ p ∧ p ≤ 15) ∨ (-15 ≤ p ∧ p < 0) ∨ (p < -15 ∨ 15 < p)) with rfl | ⟨h1, h2⟩ | ⟨h1, h2⟩ | h
  · go_enter Tryd.func7, Tryd.ntmps7
    go_wp2_with (first
    | (go_at_call 11; refine (pvalid_yes _ _ (by omega) (by omega)).mono ?_; rintro e w' ⟨rfl, rfl⟩)
    | (go_at_call 15; refine (pknown _ hkH.out).mono ?_; rintro e w' ⟨rfl, rfl⟩))
    go_ret
    exact ⟨rfl, Below.refl _ _⟩
  · have hne : (p == 0) = false := by simp; omega
    go_enter Tryd.func7, Tryd.ntmps7
    go_wp2_with (first
    | (go_at_call 11; refine (pvalid_yes _ _ (by omega) (by omega)).mono ?_; rintro e w' ⟨rfl, rfl⟩)
    | (go_at_call 8; refine (pkindn _ p _ (by omega) (by omega) (by omega)).mono ?_; rintro e w' ⟨rfl, rfl⟩)
    | (go_at_call 9; refine (psideP _ _ (by omega) (by omega)).mono ?_; rintro e w' ⟨rfl, rfl⟩)
    | (go_at_call 9; refine (psideN _ _ (by omega) (by omega)).mono ?_; rintro e w' ⟨rfl, rfl⟩)
    | (go_at_call 19; refine (pmake_yes _ _ _ (by omega) (by omega)).mono ?_; rintro e w' ⟨rfl, rfl⟩)
    | (go_at_call 22; refine (pletter_pos _ _ hkH.out h1 h2).mono ?_; rintro e w' ⟨rfl, rfl⟩)
    | (go_at_call 24; refine (pparsel _ _ hkH.out (by omega) (by omega) (by omega)).mono ?_; rintro e w' ⟨rfl, rfl⟩)
    | (go_at_call 10; refine (pvaluen _ (valV p) _ hkH.out (by omega) (by omega) (valV_same _ p (by omega))).mono ?_; rintro e w' ⟨rfl, rfl⟩)
    | (go_at_call 20; refine (pname_yes _ _ hkH.out (by omega) (by omega)).mono ?_; rintro e w' ⟨rfl, rfl⟩)
    | (go_at_call 26; refine (pfindn p p _ hkH.out (by omega) (by omega)).mono ?_; rintro e w' ⟨rfl, rfl⟩)
    | (go_at_call 27; refine (pvnamen p _ (by omega) (by omega)).mono ?_; rintro e w' ⟨rfl, rfl⟩)
    | (go_at_call 15; refine (pknown _ hkH.out).mono ?_; rintro e w' ⟨rfl, rfl⟩))
    go_ret
    exact ⟨rfl, Below.refl _ _⟩
  · have hne : (p == 0) = false := by simp; omega
    go_enter Tryd.func7, Tryd.ntmps7
    go_wp2_with (first
    | (go_at_call 11; refine (pvalid_yes _ _ (by omega) (by omega)).mono ?_; rintro e w' ⟨rfl, rfl⟩)
    | (go_at_call 8; refine (pkindn _ (-p) _ (by omega) (by omega) (by omega)).mono ?_; rintro e w' ⟨rfl, rfl⟩)
    | (go_at_call 9; refine (psideP _ _ (by omega) (by omega)).mono ?_; rintro e w' ⟨rfl, rfl⟩)
    | (go_at_call 9; refine (psideN _ _ (by omega) (by omega)).mono ?_; rintro e w' ⟨rfl, rfl⟩)
    | (go_at_call 19; refine (pmake_yes _ _ _ (by omega) (by omega)).mono ?_; rintro e w' ⟨rfl, rfl⟩)
    | (go_at_call 22; refine (pletter_neg _ _ hkH.out h1 h2).mono ?_; rintro e w' ⟨rfl, rfl⟩)
    | (go_at_call 24; refine (pparsel _ _ hkH.out (by omega) (by omega) (by omega)).mono ?_; rintro e w' ⟨rfl, rfl⟩)
    | (go_at_call 10; refine (pvaluen _ (valV p) _ hkH.out (by omega) (by omega) (valV_same _ p (by omega))).mono ?_; rintro e w' ⟨rfl, rfl⟩)
    | (go_at_call 20; refine (pname_yes _ _ hkH.out (by omega) (by omega)).mono ?_; rintro e w' ⟨rfl, rfl⟩)
    | (go_at_call 26; refine (pfindn (-p) (-p) _ hkH.out (by omega) (by omega)).mono ?_; rintro e w' ⟨rfl, rfl⟩)
    | (go_at_call 27; refine (pvnamen (-p) _ (by omega) (by omega)).mono ?_; rintro e w' ⟨rfl, rfl⟩)
    | (go_at_call 15; refine (pknown _ hkH.out).mono ?_; rintro e w' ⟨rfl, rfl⟩))
    go_ret
    exact ⟨rfl, Below.refl _ _⟩
  · have hH := Lib.hid h
    clear h
    go_enter Tryd.func7, Tryd.ntmps7
    go_wp2_with (first
    | (go_at_call 11; refine (pvalid_no _ _ hH.out).mono ?_; rintro e w' ⟨rfl, rfl⟩)
    | (go_at_call 15; refine (pknown _ hkH.out).mono ?_; rintro e w' ⟨rfl, rfl⟩))
    go_ret
    exact ⟨rfl, Below.refl _ _⟩
end Go.Proofs.YtmlbaghbdhogpaaDoor
