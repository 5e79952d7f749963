/- Layer 1: squares read from names. -/
import Derived.Test.YtjjchodcoeciaaaDoorQd
namespace Go.Proofs.YtjjchodcoeciaaaDoor
open Go.RowKit
set_option linter.unusedSimpArgs false
set_option linter.unusedVariables false
attribute [local go_sem ↓] Go.wp_at_zero Go.wp_at_succ

theorem pparse_arg (f r : Int) (s : ByteArray) (w : World) (hs : szB f r = false) : Calls Tryd.prog 26 #[.agg #[.int .i64 f, .int .i64 r], .string s] w fun e w' => e = .returned (.tuple #[.int .i64 0, .int .i64 2]) ∧ Below w.heap.size w w' := by
  go_enter Tryd.func26, Tryd.ntmps26
  go_wp2_with (go_at_call 12; refine (pvsize _ _ _).mono ?_; rintro e w1 ⟨rfl, hb⟩; obtain ⟨q0, q1, q2⟩ := box_cells hb; have hbH := Lib.hid (below_box hb); clear hb)
  go_ret2
  exact ⟨rfl, hbH.out⟩
theorem pparse_len (f r : Int) (s : ByteArray) (w : World) (hs : szB f r = true) (hl : s.size ≠ 2) (hm : s.size ≤ maxLen) : Calls Tryd.prog 26 #[.agg #[.int .i64 f, .int .i64 r], .string s] w fun e w' => e = .returned (.tuple #[.int .i64 0, .int .i64 6]) ∧ Below w.heap.size w w' := by
  have hl2 : ((s.size : Int) != 2) = true := by simp; omega
  unfold maxLen at hm
  clear hl
  go_enter Tryd.func26, Tryd.ntmps26
  go_wp2_with (go_at_call 12; refine (pvsize _ _ _).mono ?_; rintro e w1 ⟨rfl, hb⟩; obtain ⟨q0, q1, q2⟩ := box_cells hb; have hbH := Lib.hid (below_box hb); clear hb)
  go_quiet (fail)
  go_wp2
  go_ret2
  exact ⟨rfl, by first | exact hbH.out | exact below_drewN hbH.out _⟩
set_option maxRecDepth 100000 in
set_option maxHeartbeats 1000000 in
theorem pparse_no (f r : Int) (s : ByteArray) (w : World) (hs : szB f r = true) (h0 : 0 < s.size) (h1 : 1 < s.size) (hl : s.size ≤ 2) (hob : onB f r (((s[0]'h0).toNat : Int) - 97) (((s[1]'h1).toNat : Int) - 49) = false) :
    Calls Tryd.prog 26 #[.agg #[.int .i64 f, .int .i64 r], .string s] w fun e w' => e = .returned (.tuple #[.int .i64 (0), .int .i64 6]) ∧ Below w.heap.size w w' := by
  have hl2 : ((s.size : Int) != 2) = false := by rw [bne_eq_false_iff_eq]; omega
  have g0 : ((s[0]'h0).toNat : Int) < 256 := by have := UInt8.toNat_lt (s[0]'h0); omega
  have g1 : ((s[1]'h1).toNat : Int) < 256 := by have := UInt8.toNat_lt (s[1]'h1); omega
  have hon := Lib.hid (fun w : World => pon f r (((s[0]'h0).toNat : Int) - 97) (((s[1]'h1).toNat : Int) - 49) w)
  obtain ⟨f0, f1, r0, r1⟩ := szB_out hs
  have hc0 : IntKind.i64.wrap ((s[0]'h0).toNat : Int) = ((s[0]'h0).toNat : Int) := IntWalk.i64_in _ (by omega)
  have hc1 : IntKind.i64.wrap ((s[1]'h1).toNat : Int) = ((s[1]'h1).toNat : Int) := IntWalk.i64_in _ (by omega)
  have hw0 : IntKind.i64.wrap (((s[0]'h0).toNat : Int) - 97) = ((s[0]'h0).toNat : Int) - 97 := IntWalk.i64_in _ (by omega)
  have hw1 : IntKind.i64.wrap (((s[1]'h1).toNat : Int) - 49) = ((s[1]'h1).toNat : Int) - 49 := IntWalk.i64_in _ (by omega)
  have hi0 : (0 : Int) < (s.size : Int) := by omega
  have hi1 : (1 : Int) < (s.size : Int) := by omega
  go_enter Tryd.func26, Tryd.ntmps26
  go_wp2_with (go_at_call 12; refine (pvsize _ _ _).mono ?_; rintro e w1 ⟨rfl, hb⟩; obtain ⟨q0, q1, q2⟩ := box_cells hb; have hbH := Lib.hid (below_box hb); clear hb)
  have hn1 := World.new_ne w1 ⟨w.heap.size, 0, none⟩ q0
  have hn2 := World.new_ne w1 ⟨w.heap.size, 1, none⟩ q1
  go_region_held3 (fun w' => w'.cell? ⟨w.heap.size, 0, none⟩ = some (.int .i64 f) ∧ w'.cell? ⟨w.heap.size, 1, none⟩ = some (.int .i64 r)) (first | go_keep | (go_split_ands; exact ⟨p0, p1⟩))
    (first | (go_at_call 42; refine (hon.out _).mono ?_; rintro e w2 ⟨rfl, hb2⟩; have p0 := (hb2.cell (p := ⟨w.heap.size, 0, none⟩) q2).trans q0; have p1 := (hb2.cell (p := ⟨w.heap.size, 1, none⟩) q2).trans q1; have hbH2 := Lib.hid (hbH.out.drew.trans (hb2.mono hbH.out.size)); clear hb2))
  all_goals
    go_wp2
    go_ret2
    exact ⟨rfl, hbH2.out⟩
set_option maxRecDepth 100000 in
set_option maxHeartbeats 1000000 in
theorem pparse_yes (f r : Int) (s : ByteArray) (w : World) (hs : szB f r = true) (h0 : 0 < s.size) (h1 : 1 < s.size) (hl : s.size ≤ 2) (hob : onB f r (((s[0]'h0).toNat : Int) - 97) (((s[1]'h1).toNat : Int) - 49) = true) :
    Calls Tryd.prog 26 #[.agg #[.int .i64 f, .int .i64 r], .string s] w fun e w' => e = .returned (.tuple #[.int .i64 (((s[0]'h0).toNat : Int) - 97 + (((s[1]'h1).toNat : Int) - 49) * f), .int .i64 0]) ∧ Below w.heap.size w w' := by
  have hl2 : ((s.size : Int) != 2) = false := by rw [bne_eq_false_iff_eq]; omega
  have g0 : ((s[0]'h0).toNat : Int) < 256 := by have := UInt8.toNat_lt (s[0]'h0); omega
  have g1 : ((s[1]'h1).toNat : Int) < 256 := by have := UInt8.toNat_lt (s[1]'h1); omega
  have hon := Lib.hid (fun w : World => pon f r (((s[0]'h0).toNat : Int) - 97) (((s[1]'h1).toNat : Int) - 49) w)
  obtain ⟨f0, f1, r0, r1⟩ := szB_out hs
  have hc0 : IntKind.i64.wrap ((s[0]'h0).toNat : Int) = ((s[0]'h0).toNat : Int) := IntWalk.i64_in _ (by omega)
  have hc1 : IntKind.i64.wrap ((s[1]'h1).toNat : Int) = ((s[1]'h1).toNat : Int) := IntWalk.i64_in _ (by omega)
  have hw0 : IntKind.i64.wrap (((s[0]'h0).toNat : Int) - 97) = ((s[0]'h0).toNat : Int) - 97 := IntWalk.i64_in _ (by omega)
  have hw1 : IntKind.i64.wrap (((s[1]'h1).toNat : Int) - 49) = ((s[1]'h1).toNat : Int) - 49 := IntWalk.i64_in _ (by omega)
  have hi0 : (0 : Int) < (s.size : Int) := by omega
  have hi1 : (1 : Int) < (s.size : Int) := by omega
  obtain ⟨d0, d1, d2, d3, d4, d5⟩ := at_bd hs hob
  have hw4 : IntKind.i64.wrap ((((s[1]'h1).toNat : Int) - 49) * f) = (((s[1]'h1).toNat : Int) - 49) * f := IntWalk.i64_in _ (by omega)
  have hw5 : IntKind.i64.wrap (((s[0]'h0).toNat : Int) - 97 + (((s[1]'h1).toNat : Int) - 49) * f) = ((s[0]'h0).toNat : Int) - 97 + (((s[1]'h1).toNat : Int) - 49) * f := IntWalk.i64_in _ (by omega)
  go_enter Tryd.func26, Tryd.ntmps26
  go_wp2_with (go_at_call 12; refine (pvsize _ _ _).mono ?_; rintro e w1 ⟨rfl, hb⟩; obtain ⟨q0, q1, q2⟩ := box_cells hb; have hbH := Lib.hid (below_box hb); clear hb)
  have hn1 := World.new_ne w1 ⟨w.heap.size, 0, none⟩ q0
  have hn2 := World.new_ne w1 ⟨w.heap.size, 1, none⟩ q1
  go_region_held3 (fun w' => w'.cell? ⟨w.heap.size, 0, none⟩ = some (.int .i64 f) ∧ w'.cell? ⟨w.heap.size, 1, none⟩ = some (.int .i64 r)) (first | go_keep | (go_split_ands; exact ⟨p0, p1⟩))
    (first | (go_at_call 42; refine (hon.out _).mono ?_; rintro e w2 ⟨rfl, hb2⟩; have p0 := (hb2.cell (p := ⟨w.heap.size, 0, none⟩) q2).trans q0; have p1 := (hb2.cell (p := ⟨w.heap.size, 1, none⟩) q2).trans q1; have hbH2 := Lib.hid (hbH.out.drew.trans (hb2.mono hbH.out.size)); clear hb2))
  all_goals
    go_wp2
    go_quiet (fail)
    go_wp2
    go_ret2
    exact ⟨rfl, by first | exact below_drewN hbH2.out _ | exact hbH2.out⟩
end Go.Proofs.YtjjchodcoeciaaaDoor
