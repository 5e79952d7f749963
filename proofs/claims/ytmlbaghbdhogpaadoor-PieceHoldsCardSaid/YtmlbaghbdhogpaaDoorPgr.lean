/- Given names: the reference's Given. -/
import Derived.Test.YtmlbaghbdhogpaaDoorPg
namespace Go.Proofs.YtmlbaghbdhogpaaDoor
open Go.RowKit
set_option linter.unusedSimpArgs false
set_option linter.unusedVariables false

set_option maxHeartbeats 1000000 in
theorem rgiven (s : ByteArray) (w : World) (hs : s.size ≤ maxLen) : Calls Tryd.prog 28 #[.string s] w fun e w' => e = .returned (.bool (givV s)) ∧ w = w' := by
  unfold maxLen at hs
  go_enter Tryd.func28, Tryd.ntmps28
  go_wp2
  go_loop [3] (fun i => ∃ k : Nat, k ≤ s.size ∧ i = .int .i64 k ∧ Hid (∀ j, j < k → (h : j < s.size) → okP j (s[j].toNat : Int))) (fun i => s.size - (intOf i).toNat)
  case atStart => exact ⟨0, by omega, rfl, fun j hj => absurd hj (by omega)⟩
  case round =>
    obtain ⟨k, hk, rfl, hH⟩ := hrel
    by_cases hlt : k < s.size
    · have hnew : Hid (okP k (s[k].toNat : Int) → ∀ j, j < k + 1 → (h : j < s.size) → okP j (s[j].toNat : Int)) := fun hok j hj hj' => by
        by_cases e : j = k
        · subst e; exact hok
        · exact hH.out j (by omega) hj'
      have hr : Hid (¬ okP k (s[k].toNat : Int) → givV s = false) := fun hok => givV_no hlt hok
      have hneq : ∀ c : Int, c ≠ 45 → c ≠ 95 → (c == 45) = false ∧ (c == 95) = false := fun c h1 h2 => ⟨by simpa using h1, by simpa using h2⟩
      have hneqH := Lib.hid hneq
      clear hneq
      have hcases : (s[k].toNat : Int) = 45 ∨ (s[k].toNat : Int) = 95 ∨ ((s[k].toNat : Int) < 45 ∨ (46 ≤ (s[k].toNat : Int) ∧ (s[k].toNat : Int) < 48) ∨ (48 ≤ (s[k].toNat : Int) ∧ (s[k].toNat : Int) ≤ 57) ∨ (58 ≤ (s[k].toNat : Int) ∧ (s[k].toNat : Int) < 65) ∨ (65 ≤ (s[k].toNat : Int) ∧ (s[k].toNat : Int) ≤ 90) ∨ (91 ≤ (s[k].toNat : Int) ∧ (s[k].toNat : Int) < 95) ∨ (96 ≤ (s[k].toNat : Int) ∧ (s[k].toNat : Int) < 97) ∨ (97 ≤ (s[k].toNat : Int) ∧ (s[k].toNat : Int) ≤ 122) ∨ 122 < (s[k].toNat : Int)) := by omega
      by_cases h0 : 0 < k
      · have h0b : ((k : Int) == 0) = false := by simp; omega
        rcases hcases with hc | hc | hc
        · go_wp2
          go_round
          case rel => exact ⟨k + 1, by omega, by go_num, hnew.out (by unfold okP; omega)⟩
          case measure => simp [intOf]; omega
        · go_wp2
          go_round
          case rel => exact ⟨k + 1, by omega, by go_num, hnew.out (by unfold okP; omega)⟩
          case measure => simp [intOf]; omega
        · obtain ⟨e45, e95⟩ := hneqH.out (s[k].toNat : Int) (by omega) (by omega)
          rcases hc with hc | ⟨hc, hc'⟩ | ⟨hc, hc'⟩ | ⟨hc, hc'⟩ | ⟨hc, hc'⟩ | ⟨hc, hc'⟩ | ⟨hc, hc'⟩ | ⟨hc, hc'⟩ | hc
          all_goals
            go_wp2
            all_goals first
              | (go_round
                 case rel => exact ⟨k + 1, by omega, by go_num, hnew.out (by unfold okP; omega)⟩
                 case measure => simp [intOf]; omega)
              | (exfalso; rename_i hz; simp only [Bool.not_eq_false', decide_eq_true_eq] at hz; omega)
              | (go_ret; exact ⟨by rw [hr.out (by unfold okP; omega)]; rfl, rfl⟩)
      · obtain rfl : k = 0 := by omega
        rcases hcases with hc | hc | hc
        · go_wp2
          go_ret
          exact ⟨by rw [hr.out (by unfold okP; omega)]; rfl, rfl⟩
        · go_wp2
          go_ret
          exact ⟨by rw [hr.out (by unfold okP; omega)]; rfl, rfl⟩
        · obtain ⟨e45, e95⟩ := hneqH.out (s[0].toNat : Int) (by omega) (by omega)
          rcases hc with hc | ⟨hc, hc'⟩ | ⟨hc, hc'⟩ | ⟨hc, hc'⟩ | ⟨hc, hc'⟩ | ⟨hc, hc'⟩ | ⟨hc, hc'⟩ | ⟨hc, hc'⟩ | hc
          all_goals
            go_wp2
            all_goals first
              | (go_round
                 case rel => exact ⟨1, by omega, rfl, hnew.out (by unfold okP; omega)⟩
                 case measure => simp [intOf]; omega)
              | (exfalso; rename_i hz; simp only [Bool.not_eq_false', decide_eq_true_eq] at hz; omega)
              | (go_ret; exact ⟨by rw [hr.out (by unfold okP; omega)]; rfl, rfl⟩)
    · have hr : Hid (givV s = decide (1 ≤ s.size ∧ s.size ≤ 32)) := givV_all fun j hj => hH.out j (by omega) hj
      go_wp2
      all_goals
        go_ret
        exact ⟨by rw [hr.out]; exact rb (by first | (rw [decide_eq_decide]; omega) | (symm; simp; omega)), rfl⟩
end Go.Proofs.YtmlbaghbdhogpaaDoor
