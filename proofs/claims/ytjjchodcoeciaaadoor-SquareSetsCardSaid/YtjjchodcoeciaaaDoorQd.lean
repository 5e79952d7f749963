/- Layer 1: the reference's names and numbers. -/
import Derived.Test.YtjjchodcoeciaaaDoorQc
namespace Go.Proofs.YtjjchodcoeciaaaDoor
open Go.RowKit
set_option linter.unusedSimpArgs false
set_option linter.unusedVariables false
attribute [local go_sem ↓] Go.wp_at_zero Go.wp_at_succ

theorem ext_a (x : Nat) (h : x < 8) : (ByteArray.mk #[97, 98, 99, 100, 101, 102, 103, 104]).extract x (x + 1) = ⟨#[bx (97 + (x : Int))]⟩ := by
  obtain rfl | rfl | rfl | rfl | rfl | rfl | rfl | rfl : x = 0 ∨ x = 1 ∨ x = 2 ∨ x = 3 ∨ x = 4 ∨ x = 5 ∨ x = 6 ∨ x = 7 := by omega
  all_goals rfl
theorem ext_1 (x : Nat) (h : x < 8) : (ByteArray.mk #[49, 50, 51, 52, 53, 54, 55, 56]).extract x (x + 1) = ⟨#[bx (49 + (x : Int))]⟩ := by
  obtain rfl | rfl | rfl | rfl | rfl | rfl | rfl | rfl : x = 0 ∨ x = 1 ∨ x = 2 ∨ x = 3 ∨ x = 4 ∨ x = 5 ∨ x = 6 ∨ x = 7 := by omega
  all_goals rfl
theorem nm_ext (x y : Nat) (hx : x < 8) (hy : y < 8) : (ByteArray.mk #[97, 98, 99, 100, 101, 102, 103, 104]).extract x (x + 1) ++ (ByteArray.mk #[49, 50, 51, 52, 53, 54, 55, 56]).extract y (y + 1) = nm x y := by
  rw [ext_a x hx, ext_1 y hy]
  rfl
theorem rs {a b : ByteArray} (h : a = b) : Ending.returned (.string a) = .returned (.string b) := by rw [h]
theorem rname_yes (f r a : Int) (w : World) (h : sqB f r a = true) : Calls Tryd.prog 25 #[.agg #[.int .i64 f, .int .i64 r], .int .i64 a] w fun e w' => e = .returned (.string (nm (a % f) (a / f))) ∧ Below w.heap.size w w' := by
  obtain ⟨hs, h0, h1⟩ := sqB_out h
  obtain ⟨f0, f1, r0, r1⟩ := szB_out hs
  obtain ⟨d0, d1, d2, d3, d4⟩ := place_bd h
  clear d4
  obtain ⟨x, hx⟩ : ∃ x : Nat, (x : Int) = a % f := ⟨(a % f).toNat, by omega⟩
  obtain ⟨y, hy⟩ : ∃ y : Nat, (y : Int) = a / f := ⟨(a / f).toNat, by omega⟩
  have hpl := Lib.hid (fun w : World => rplace f r a w h)
  rw [← hx] at d0 d1 hpl ⊢
  rw [← hy] at d2 d3 hpl ⊢
  have hxH := Lib.hid hx
  have hyH := Lib.hid hy
  clear hx hy
  go_enter Tryd.func25, Tryd.ntmps25
  go_wp2_with (go_at_call 24; refine (hpl.out _).mono ?_; rintro e w1 ⟨rfl, hb⟩; have hbH := Lib.hid (below_box hb); clear hb)
  go_quiet (fail)
  go_wp2
  go_ret
  exact ⟨rs (nm_ext x y (by omega) (by omega)), below_drewN (hbH.out.alloc hbH.out.size _) _⟩

theorem rnumber (f r x y : Int) (w : World) (hs : szB f r = true) : Calls Tryd.prog 23 #[.agg #[.int .i64 f, .int .i64 r], .int .i64 x, .int .i64 y] w fun e w' => e = .returned (.int .i64 (if onB f r x y = true then x + y * f else -1)) ∧ Below w.heap.size w w' := by
  cases ho : onB f r x y
  · have hn := of_decide_eq_false ho
    have hoH := Lib.hid ho
    clear ho
    rcases (by omega : x < 0 ∨ (0 ≤ x ∧ f ≤ x) ∨ ((0 ≤ x ∧ x < f) ∧ y < 0) ∨ ((0 ≤ x ∧ x < f) ∧ 0 ≤ y ∧ r ≤ y)) with h | ⟨h, h'⟩ | ⟨⟨h, h'⟩, k⟩ | ⟨⟨h, h'⟩, k, k'⟩
    all_goals
      clear hn
      go_enter Tryd.func23, Tryd.ntmps23
      go_wp2
      go_ret
      exact ⟨rfl, (Below.refl _ _).alloc (Nat.le_refl _) _⟩
  · obtain ⟨d0, d1, d2, d3, d4, d5⟩ := at_bd hs ho
    obtain ⟨f0, f1, r0, r1⟩ := szB_out hs
    have hoH := Lib.hid ho
    clear ho
    go_enter Tryd.func23, Tryd.ntmps23
    go_wp2
    go_ret
    exact ⟨ri (by first | omega | (simp; omega)), (Below.refl _ _).alloc (Nat.le_refl _) _⟩
theorem rabs (n : Int) (w : World) (h0 : -100 ≤ n) (h1 : n ≤ 100) : Calls Tryd.prog 43 #[.int .i64 n] w fun e w' => e = .returned (.int .i64 (n.natAbs : Int)) ∧ w = w' := by
  by_cases h : n < 0
  · go_enter Tryd.func43, Tryd.ntmps43
    go_wp2
    go_ret
    exact ⟨ri (by omega), rfl⟩
  · go_enter Tryd.func43, Tryd.ntmps43
    go_wp2
    go_ret
    exact ⟨ri (by omega), rfl⟩
end Go.Proofs.YtjjchodcoeciaaaDoor
