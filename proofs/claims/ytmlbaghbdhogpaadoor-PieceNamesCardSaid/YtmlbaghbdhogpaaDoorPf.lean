/- The contracts of the searches: a letter, a name. -/
import Derived.Test.YtmlbaghbdhogpaaDoorPe
namespace Go.Proofs.YtmlbaghbdhogpaaDoor
open Go.RowKit
set_option linter.unusedSimpArgs false
set_option linter.unusedVariables false

set_option maxHeartbeats 400000 in
theorem rparse (c : Int) (w : World) (h1 : 0 ≤ c) (h2 : c ≤ 255) : Calls Tryd.prog 25 #[.int .u8 c] w fun e w' => e = .returned (.int .i8 (parV c)) ∧ w = w' := by
  go_enter Tryd.func25, Tryd.ntmps25
  go_wp2
  go_loop [3] (fun i => ∃ p : Int, -15 ≤ p ∧ p ≤ 16 ∧ i = .int .i8 p ∧ Hid (∀ q : Int, -15 ≤ q → q < p → q ≠ 0 → letV q ≠ c)) (fun i => (16 - intOf i).toNat)
  case atStart => exact ⟨-15, by omega, by omega, rfl, fun q hq hq' => absurd hq' (by omega)⟩
  case round =>
    obtain ⟨p, hp1, hp2, rfl, hH⟩ := hrel
    by_cases hlt : p ≤ 15
    · by_cases h0 : p = 0
      · subst h0
        have hnew : Hid (∀ q : Int, -15 ≤ q → q < 1 → q ≠ 0 → letV q ≠ c) := fun q hq hq' hq0 => hH.out q hq (by omega) hq0
        go_wp2
        go_round
        case rel => exact ⟨1, by omega, by omega, rfl, hnew⟩
        case measure => simp [intOf]
      · have h0b : (p != 0) = true := by simpa using h0
        have h0H := Lib.hid h0
        clear h0
        by_cases hc : letV p = c
        · have hb : (letV p == c) = true := by simpa using hc
          have hr : Hid (parV c = p) := by rw [← hc]; exact parV_let p hp1 hlt h0H.out
          clear hc
          go_wp2_with (first | (go_at_call 23; refine (rletter _ _ hp1 hlt h0H.out).mono ?_; rintro e w' ⟨rfl, rfl⟩))
          go_ret
          exact ⟨by rw [hr.out]; rfl, rfl⟩
        · have hb : (letV p == c) = false := by simpa using hc
          have hnew : Hid (∀ q : Int, -15 ≤ q → q < p + 1 → q ≠ 0 → letV q ≠ c) := fun q hq hq' hq0 => by
            by_cases e : q = p
            · subst e; exact hc
            · exact hH.out q hq (by omega) hq0
          clear hc
          go_wp2_with (first | (go_at_call 23; refine (rletter _ _ hp1 hlt h0H.out).mono ?_; rintro e w' ⟨rfl, rfl⟩))
          go_round
          case rel => exact ⟨p + 1, by omega, by omega, rfl, hnew⟩
          case measure => simp [intOf]; omega
    · have hr : Hid (parV c = 0) := parV_no c fun q hq hq' hq0 => hH.out q hq (by omega) hq0
      go_wp2
      go_ret
      exact ⟨by rw [hr.out]; rfl, rfl⟩

set_option maxHeartbeats 400000 in
theorem pfind (s : ByteArray) (w : World) (hk : KindsAt w) : Calls Tryd.prog 26 #[.string s] w fun e w' => e = .returned (.tuple #[.int .i8 (finV s.toList), .int .i64 (noE (finV s.toList))]) ∧ w = w' := by
  have hkH := Lib.hid hk
  clear hk
  go_enter Tryd.func26, Tryd.ntmps26
  go_wp2
  go_loop [5] (fun i => ∃ k : Nat, k ≤ 15 ∧ i = .int .i8 k ∧ Hid (∀ j, j < k → namAt j ≠ s.toList)) (fun i => 15 - (intOf i).toNat)
  case atStart => exact ⟨0, by omega, rfl, fun j hj => absurd hj (by omega)⟩
  case round =>
    obtain ⟨k, hk15, rfl, hH⟩ := hrel
    by_cases hlt : k < 15
    · have hc := hkH.out.name k hlt
      by_cases he : namAt k = s.toList
      · have hr : Hid (finV s.toList = k + 1) := by rw [← he]; exact finV_at k hlt
        have heb : (namAt k == s.toList) = true := by simpa using he
        clear he
        go_wp2
        go_ret2
        exact ⟨by rw [hr.out, noE_pos (by omega)]; rfl, rfl⟩
      · have heb : (namAt k == s.toList) = false := by simpa using he
        have hnew : Hid (∀ j, j < k + 1 → namAt j ≠ s.toList) := fun j hj => by
          by_cases e : j = k
          · subst e; exact he
          · exact hH.out j (by omega)
        clear he
        go_wp2
        go_round
        case rel => exact ⟨k + 1, by omega, by go_num, hnew⟩
        case measure => simp [intOf]; omega
    · have hr : Hid (finV s.toList = 0) := finV_none _ (fun j hj => hH.out j (by omega))
      go_wp2
      go_ret2
      exact ⟨by rw [hr.out]; rfl, rfl⟩

set_option maxHeartbeats 400000 in
theorem rfind (s : ByteArray) (w : World) : Calls Tryd.prog 29 #[.string s] w fun e w' => e = .returned (.int .i8 (finV s.toList)) ∧ Below w.heap.size w w' := by
  go_enter Tryd.func29, Tryd.ntmps29
  go_wp2
  go_loopw [3] (fun i wr => ∃ k : Nat, 1 ≤ k ∧ k ≤ 16 ∧ i = .int .i8 k ∧ Hid (∀ j, j + 1 < k → namAt j ≠ s.toList) ∧ Below w.heap.size w wr) (fun i _ => 16 - (intOf i).toNat)
  case atStart => exact ⟨1, by omega, by omega, rfl, fun j hj => absurd hj (by omega), Below.refl _ _⟩
  case round =>
    obtain ⟨k, hk1, hk15, rfl, hH, hbe⟩ := hrel
    have hsz := hbe.size
    have hbeH := Lib.hid hbe
    clear hbe
    by_cases hlt : k ≤ 15
    · by_cases he : namAt (k - 1) = s.toList
      · have hr : Hid (finV s.toList = k) := by unfold Hid; rw [← he, finV_at (k - 1) (by omega)]; omega
        have heb : (namAt (k - 1) == s.toList) = true := by simpa using he
        clear he
        go_wp2_with (first | (go_at_call 21; refine (rname _ _ (by omega) (by omega)).mono ?_; rintro e w' ⟨rfl, hb⟩))
        go_ret
        exact ⟨by rw [hr.out]; rfl, hbeH.out.trans (hb.mono hsz)⟩
      · have heb : (namAt (k - 1) == s.toList) = false := by simpa using he
        have hnew : Hid (∀ j, j + 1 < k + 1 → namAt j ≠ s.toList) := fun j hj => by
          by_cases e : j + 1 = k
          · have : j = k - 1 := by omega
            subst this; exact he
          · exact hH.out j (by omega)
        clear he
        go_wp2_with (first | (go_at_call 21; refine (rname _ _ (by omega) (by omega)).mono ?_; rintro e w' ⟨rfl, hb⟩))
        go_roundw
        case rel => exact ⟨k + 1, by omega, by omega, by go_num, hnew, hbeH.out.trans (hb.mono hsz)⟩
        case measure => simp [intOf]; omega
    · have hr : Hid (finV s.toList = 0) := finV_none _ (fun j hj => hH.out j (by omega))
      go_wp2
      go_ret
      exact ⟨by rw [hr.out]; rfl, hbeH.out⟩
end Go.Proofs.YtmlbaghbdhogpaaDoor
