/- The contracts of piece's functions that read the table of kinds, and of the reference's beside them. -/
import Derived.Test.YtmlbaghbdhogpaaDoorPc
namespace Go.Proofs.YtmlbaghbdhogpaaDoor
open Go.RowKit
set_option linter.unusedSimpArgs false
set_option linter.unusedVariables false

theorem pvalue_yes (p : Int) (w : World) (hk : KindsAt w) (h1 : -15 ≤ p) (h2 : p ≤ 15) : Calls Tryd.prog 10 #[.int .i8 p] w fun e w' => e = .returned (.tuple #[.int .i64 (valV p), .int .i64 0]) ∧ w = w' := by
  by_cases h0 : p = 0
  · subst h0
    go_enter Tryd.func10, Tryd.ntmps10
    go_wp2_with (first | (go_at_call 11; refine (pvalid_yes _ _ h1 h2).mono ?_; rintro e w' ⟨rfl, rfl⟩))
    go_ret2
    exact ⟨rfl, rfl⟩
  · have h0' : (p == 0) = false := by simpa using h0
    have hc := hk.value (p.natAbs - 1) (by omega)
    have hv : Hid (valV p = valAt (p.natAbs - 1)) := by unfold Hid valV; rw [if_neg h0]
    clear hk
    go_enter Tryd.func10, Tryd.ntmps10
    go_wp2_with (first | (go_at_call 11; refine (pvalid_yes _ _ h1 h2).mono ?_; rintro e w' ⟨rfl, rfl⟩) | (go_at_call 30; refine (pabs _ _ h1 h2).mono ?_; rintro e w' ⟨rfl, rfl⟩))
    go_ret2
    exact ⟨by rw [hv.out]; rfl, rfl⟩
theorem pvalue_no (p : Int) (w : World) (h : p < -15 ∨ 15 < p) : Calls Tryd.prog 10 #[.int .i8 p] w fun e w' => e = .returned (.tuple #[.int .i64 0, .int .i64 2]) ∧ w = w' := by
  go_enter Tryd.func10, Tryd.ntmps10
  go_wp2_with (first | (go_at_call 11; refine (pvalid_no _ _ h).mono ?_; rintro e w' ⟨rfl, rfl⟩))
  go_ret2
  exact ⟨rfl, rfl⟩
theorem pletter_pos (p : Int) (w : World) (hk : KindsAt w) (h1 : 1 ≤ p) (h2 : p ≤ 15) : Calls Tryd.prog 22 #[.int .i8 p] w fun e w' => e = .returned (.tuple #[.int .u8 (letV p), .int .i64 0]) ∧ w = w' := by
  have h0' : (p == 0) = false := by simp; omega
  have hc := hk.letter (p.toNat - 1) (by omega)
  have hv : Hid (letV p = letAt (p.toNat - 1)) := by unfold Hid letV; rw [if_neg (by omega)]; congr 1; omega
  clear hk
  go_enter Tryd.func22, Tryd.ntmps22
  go_wp2_with (first | (go_at_call 11; refine (pvalid_yes _ _ (by omega) h2).mono ?_; rintro e w' ⟨rfl, rfl⟩))
  go_ret2
  exact ⟨by rw [hv.out]; rfl, rfl⟩
theorem pletter_neg (p : Int) (w : World) (hk : KindsAt w) (h1 : -15 ≤ p) (h2 : p < 0) : Calls Tryd.prog 22 #[.int .i8 p] w fun e w' => e = .returned (.tuple #[.int .u8 (letV p), .int .i64 0]) ∧ w = w' := by
  have h0' : (p == 0) = false := by simp; omega
  have hc := hk.letter ((-p).toNat - 1) (by omega)
  have hb := letAt_bd ((-p).toNat - 1)
  have hv : Hid (letV p = letAt ((-p).toNat - 1) + 32) := by unfold Hid letV; rw [if_pos (by omega)]; congr 2; omega
  clear hk
  go_enter Tryd.func22, Tryd.ntmps22
  go_wp2_with (first | (go_at_call 11; refine (pvalid_yes _ _ (by omega) (by omega)).mono ?_; rintro e w' ⟨rfl, rfl⟩))
  go_ret2
  exact ⟨by rw [hv.out]; rfl, rfl⟩
theorem rletter_pos (p : Int) (w : World) (h1 : 1 ≤ p) (h2 : p ≤ 15) : Calls Tryd.prog 23 #[.int .i8 p] w fun e w' => e = .returned (.int .u8 (letV p)) ∧ w = w' := by
  have hv : Hid (letV p = letAt (p.toNat - 1)) := by unfold Hid letV; rw [if_neg (by omega)]; congr 1; omega
  go_enter Tryd.func23, Tryd.ntmps23
  go_wp2
  go_ret
  exact ⟨by rw [hv.out, ← refUp (p.toNat - 1) (by omega) (by simp [ByteArray.size]; omega)]; rfl, rfl⟩
theorem rletter_neg (p : Int) (w : World) (h1 : -15 ≤ p) (h2 : p < 0) : Calls Tryd.prog 23 #[.int .i8 p] w fun e w' => e = .returned (.int .u8 (letV p)) ∧ w = w' := by
  have hv : Hid (letV p = letAt ((-p).toNat - 1) + 32) := by unfold Hid letV; rw [if_pos (by omega)]; congr 2; omega
  go_enter Tryd.func23, Tryd.ntmps23
  go_wp2
  go_ret
  exact ⟨by rw [hv.out, ← refLow ((-p).toNat - 1) (by omega) (by simp [ByteArray.size]; omega)]; rfl, rfl⟩
theorem rletter (p : Int) (w : World) (h1 : -15 ≤ p) (h2 : p ≤ 15) (h0 : p ≠ 0) : Calls Tryd.prog 23 #[.int .i8 p] w fun e w' => e = .returned (.int .u8 (letV p)) ∧ w = w' := by
  by_cases h : p < 0
  · exact rletter_neg p w h1 h
  · exact rletter_pos p w (by omega) h2

set_option maxHeartbeats 400000 in
theorem pparse (c : Int) (w : World) (hk : KindsAt w) (h1 : 0 ≤ c) (h2 : c ≤ 255) : Calls Tryd.prog 24 #[.int .u8 c] w fun e w' => e = .returned (.tuple #[.int .i8 (parV c), .int .i64 (noE (parV c))]) ∧ w = w' := by
  have hkH := Lib.hid hk
  clear hk
  go_enter Tryd.func24, Tryd.ntmps24
  go_wp2
  go_loop [5] (fun i => ∃ k : Nat, k ≤ 15 ∧ i = .int .i8 k ∧ Hid (∀ j, j < k → letAt j ≠ c ∧ letAt j + 32 ≠ c)) (fun i => 15 - (intOf i).toNat)
  case atStart => exact ⟨0, by omega, rfl, fun j hj => absurd hj (by omega)⟩
  case round =>
    obtain ⟨k, hk15, rfl, hH⟩ := hrel
    by_cases hlt : k < 15
    · have hc := hkH.out.letter k hlt
      have hb := letAt_bd k
      by_cases ha : letAt k = c
      · have hp := parV_up k hlt
        rw [ha] at hp
        have hpH := Lib.hid hp
        have hab : (c == letAt k) = true := by simp [ha]
        clear hp ha
        go_wp2
        go_ret2
        exact ⟨by rw [hpH.out, noE_pos (by omega)]; rfl, rfl⟩
      · by_cases hb2 : letAt k + 32 = c
        · have hp := parV_low k hlt
          rw [hb2] at hp
          have hpH := Lib.hid hp
          have hab : (c == letAt k) = false := by simp; omega
          have hab2 : (c == letAt k + 32) = true := by simp [hb2]
          clear hp ha hb2
          go_wp2
          go_ret2
          exact ⟨by rw [hpH.out, noE_pos (by omega)]; rfl, rfl⟩
        · have hab : (c == letAt k) = false := by simp; omega
          have hab2 : (c == letAt k + 32) = false := by simp; omega
          have hnew : Hid (∀ j, j < k + 1 → letAt j ≠ c ∧ letAt j + 32 ≠ c) := fun j hj => by
            by_cases e : j = k
            · subst e; exact ⟨ha, hb2⟩
            · exact hH.out j (by omega)
          clear ha hb2
          go_wp2
          go_round
          case rel => exact ⟨k + 1, by omega, by go_num, hnew⟩
          case measure => simp [intOf]; omega
    · have hp : Hid (parV c = 0) := parV_none c (fun j hj => hH.out j (by omega))
      go_wp2
      go_ret2
      exact ⟨by rw [hp.out]; rfl, rfl⟩
end Go.Proofs.YtmlbaghbdhogpaaDoor
