/- Layer 45: the reference's table, expectation and test of games. -/
import Derived.Test.YtlmdmdjcokmgjaaDoorRe
namespace Go.Proofs.YtlmdmdjcokmgjaaDoor
open Go.RowKit
set_option linter.unusedSimpArgs false
set_option linter.unusedVariables false

theorem rlims (w : World) : Calls Tryd.prog 21 #[] w fun e w' => e = .returned (.slice (some ⟨w.heap.size, 0, none⟩) 42 42) ∧ w.alloc (.cells limCells 3) = w' := by
  go_enter Tryd.func21, Tryd.ntmps21
  go_wp2
  go_ret
  exact ⟨rfl, rfl⟩
theorem cell_lims (w : World) (k : Nat) (hk : k < 42) : (w.alloc (.cells limCells 3)).cell? ⟨w.heap.size, k, none⟩ = some (.int .i64 (limAt k)) := by
  rw [cell_of_row _ _ _ _ _ _ (heap_alloc_new w _)]
  exact limCells_at k hk

set_option maxHeartbeats 400000 in
theorem rexp_ge (a b : Int) (w : World) (a0 : 0 ≤ a) (a1 : a ≤ 4000) (b0 : 0 ≤ b) (b1 : b ≤ 4000) (h : b ≤ a) : Calls Tryd.prog 11 #[.int .i64 a, .int .i64 b] w fun e w' => e = .returned (.int .i64 (expV a b)) ∧ w.alloc (.cells limCells 3) = w' := by
  by_cases h4 : a - b < 400
  · have hv : Hid (expV a b = 50 + cnt (a - b) 42) := by unfold Hid expV; rw [if_neg (by omega), show min 400 (a - b) = a - b by omega]
    go_enter Tryd.func11, Tryd.ntmps11
    go_wp2_with (go_at_call 21; refine (rlims _).mono ?_; rintro e w' ⟨rfl, rfl⟩)
    go_loop [6, 7] (fun n i => ∃ k : Nat, k ≤ 42 ∧ i = .int .i64 k ∧ n = .int .i64 (50 + cnt (a - b) k)) (fun _ i => 42 - (intOf i).toNat)
    case atStart => exact ⟨0, by omega, rfl, rfl⟩
    case round =>
      obtain ⟨k, hk, rfl, rfl⟩ := hrel
      have hc := cnt_bd (a - b) k
      obtain ⟨hc0, hc1⟩ := hc
      by_cases hlt : k < 42
      · have hix := cell_lims w k hlt
        by_cases hlim : limAt k < a - b
        · have hs := Lib.hid (cnt_yes hlim)
          go_wp2
          go_round
          case rel => exact ⟨k + 1, by omega, by go_num, by rw [hs.out]; go_num⟩
          case measure => simp [intOf]; omega
        · have hs := Lib.hid (cnt_no hlim)
          go_wp2
          go_round
          case rel => exact ⟨k + 1, by omega, by go_num, by rw [hs.out]⟩
          case measure => simp [intOf]; omega
      · have hge : 42 ≤ k := by omega
        go_wp2
        go_ret
        exact ⟨ri (by rw [hv.out, show k = 42 by omega]), rfl⟩
  · have hv : Hid (expV a b = 50 + cnt 400 42) := by unfold Hid expV; rw [if_neg (by omega), show min 400 (a - b) = 400 by omega]
    have h4' : 400 ≤ a - b := by omega
    go_enter Tryd.func11, Tryd.ntmps11
    go_wp2_with (go_at_call 21; refine (rlims _).mono ?_; rintro e w' ⟨rfl, rfl⟩)
    go_loop [6, 7] (fun n i => ∃ k : Nat, k ≤ 42 ∧ i = .int .i64 k ∧ n = .int .i64 (50 + cnt 400 k)) (fun _ i => 42 - (intOf i).toNat)
    case atStart => exact ⟨0, by omega, rfl, rfl⟩
    case round =>
      obtain ⟨k, hk, rfl, rfl⟩ := hrel
      have hc := cnt_bd 400 k
      obtain ⟨hc0, hc1⟩ := hc
      by_cases hlt : k < 42
      · have hix := cell_lims w k hlt
        by_cases hlim : limAt k < 400
        · have hs := Lib.hid (cnt_yes hlim)
          go_wp2
          all_goals
            go_round
            case rel => exact ⟨k + 1, by omega, by go_num, by rw [hs.out]; go_num⟩
            case measure => simp [intOf]; omega
        · have hs := Lib.hid (cnt_no hlim)
          go_wp2
          all_goals
            go_round
            case rel => exact ⟨k + 1, by omega, by go_num, by rw [hs.out]⟩
            case measure => simp [intOf]; omega
      · have hge : 42 ≤ k := by omega
        go_wp2
        go_ret
        exact ⟨ri (by rw [hv.out, show k = 42 by omega]), rfl⟩
theorem rexp (a b : Int) (w : World) (a0 : 0 ≤ a) (a1 : a ≤ 4000) (b0 : 0 ≤ b) (b1 : b ≤ 4000) : Calls Tryd.prog 11 #[.int .i64 a, .int .i64 b] w fun e w' => e = .returned (.int .i64 (expV a b)) ∧ w.alloc (.cells limCells 3) = w' := by
  by_cases h : b ≤ a
  · exact rexp_ge a b w a0 a1 b0 b1 h
  · have hlt : a < b := by omega
    have hv := Lib.hid (expV_lt hlt)
    have hb := expV_bd b a
    obtain ⟨hb0, hb1⟩ := hb
    go_enter Tryd.func11, Tryd.ntmps11
    go_wp2_with (go_at_call 11; refine (rexp_ge b a _ b0 b1 a0 a1 (by omega)).mono ?_; rintro e w' ⟨rfl, rfl⟩)
    go_ret
    exact ⟨ri (by rw [hv.out]), rfl⟩

set_option maxHeartbeats 1000000 in
theorem rvalid (A : Option Addr) (l : List (Int × Int)) (c : Nat) (w : World) (hg : GamesAt w w.heap.size A l) (hm : l.length ≤ maxLen) : Calls Tryd.prog 14 #[.slice A l.length c] w fun e w' => e = .returned (.bool (vldG l)) ∧ w = w' := by
  unfold maxLen at hm
  have hgH := Lib.hid hg
  clear hg
  go_enter Tryd.func14, Tryd.ntmps14
  go_wp2
  go_loop [3] (fun i => ∃ k : Nat, k ≤ l.length ∧ i = .int .i64 k ∧ Hid (∀ j, j < k → okG (gameAt l j))) (fun i => l.length - (intOf i).toNat)
  case atStart => exact ⟨0, by omega, rfl, fun j hj => absurd hj (by omega)⟩
  case round =>
    obtain ⟨k, hk, rfl, hH⟩ := hrel
    by_cases hlt : k < l.length
    · obtain ⟨b, off, rfl, hbl, hc⟩ := hgH.out (by omega)
      have hc1 := (hc k hlt).1
      have hc2 := (hc k hlt).2
      have hno : Hid (¬ okG (gameAt l k) → vldG l = false) := fun h => vldG_no hlt h
      have hnew : Hid (okG (gameAt l k) → ∀ j, j < k + 1 → okG (gameAt l j)) := fun h j hj => by
        by_cases e : j = k
        · subst e; exact h
        · exact hH.out j (by omega)
      clear hc
      generalize hG : gameAt l k = g at *
      clear hG
      obtain ⟨x, y⟩ := g
      by_cases hx : 0 ≤ x ∧ x ≤ 4000
      · have hxb := inB_yes hx.1 hx.2
        by_cases hy : 0 ≤ y ∧ y ≤ 2
        · have hn := hnew.out ⟨hx.1, hx.2, hy.1, hy.2⟩
          have hnH := Lib.hid hn
          obtain ⟨hy0, hy1⟩ := hy
          clear hn hnew hno hx
          go_wp2_with (go_at_call 9; refine (rrat _ _).mono ?_; rintro e w' ⟨rfl, rfl⟩)
          go_round
          case rel => exact ⟨k + 1, by omega, by go_num, hnH⟩
          case measure => simp [intOf]; omega
        · have hr : Hid (vldG l = false) := hno.out (by unfold okG; simp; omega)
          clear hnew hno hx
          rcases (by omega : y < 0 ∨ (0 ≤ y ∧ 2 < y)) with hy | ⟨hy, hy'⟩
          all_goals
            go_wp2_with (go_at_call 9; refine (rrat _ _).mono ?_; rintro e w' ⟨rfl, rfl⟩)
            go_ret
            exact ⟨by rw [hr.out]; rfl, rfl⟩
      · have hxb := inB_no (x := x) (a := 0) (b := 4000) (by omega)
        have hr : Hid (vldG l = false) := hno.out (by unfold okG; simp; omega)
        clear hnew hno hx
        go_wp2_with (go_at_call 9; refine (rrat _ _).mono ?_; rintro e w' ⟨rfl, rfl⟩)
        go_ret
        exact ⟨by rw [hr.out]; rfl, rfl⟩
    · have hr : Hid (vldG l = decide (l.length ≤ 200)) := vldG_all fun j hj => hH.out j (by omega)
      go_wp2
      go_ret
      exact ⟨by rw [hr.out]; exact rb (by first | rfl | (rw [decide_eq_decide]; omega)), rfl⟩
end Go.Proofs.YtlmdmdjcokmgjaaDoor
