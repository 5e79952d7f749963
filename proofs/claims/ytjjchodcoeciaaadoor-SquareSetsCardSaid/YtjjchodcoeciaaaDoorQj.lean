/- Layer 1: the examples of the chapter. Printed by gen_known.py. -/
import Derived.Test.YtjjchodcoeciaaaDoorQi
import Derived.Test.YtjjchodcoeciaaaDoorQf
namespace Go.Proofs.YtjjchodcoeciaaaDoor
open Go.RowKit
set_option linter.unusedSimpArgs false
set_option linter.unusedVariables false

theorem kc1 (w : World) : Calls Tryd.prog 10 #[.agg #[.int .i64 3, .int .i64 4]] w fun e w' => e = .returned (.tuple #[.int .i64 12, .int .i64 0]) ∧ Below w.heap.size w w' :=
  (pcount_yes 3 4 w (by decide)).mono fun e w' h => ⟨h.1.trans rfl, h.2⟩
theorem kc2 (w : World) : Calls Tryd.prog 10 #[.agg #[.int .i64 8, .int .i64 9]] w fun e w' => e = .returned (.tuple #[.int .i64 0, .int .i64 2]) ∧ Below w.heap.size w w' :=
  (pcount_no 8 9 w (by decide)).mono fun e w' h => ⟨h.1.trans rfl, h.2⟩
theorem ka1 (w : World) : Calls Tryd.prog 19 #[.agg #[.int .i64 5, .int .i64 4], .int .i64 2, .int .i64 3] w fun e w' => e = .returned (.tuple #[.int .i64 17, .int .i64 0]) ∧ Below w.heap.size w w' :=
  (pat_yes 5 4 2 3 w (by decide) (by decide)).mono fun e w' h => ⟨h.1.trans rfl, h.2⟩
theorem ka2 (w : World) : Calls Tryd.prog 19 #[.agg #[.int .i64 5, .int .i64 4], .int .i64 5, .int .i64 0] w fun e w' => e = .returned (.tuple #[.int .i64 0, .int .i64 3]) ∧ Below w.heap.size w w' :=
  (pat_range 5 4 5 0 w (by decide) (by decide)).mono fun e w' h => ⟨h.1.trans rfl, h.2⟩
theorem kp1 (w : World) : Calls Tryd.prog 20 #[.agg #[.int .i64 5, .int .i64 4], .int .i64 17] w fun e w' => e = .returned (.tuple #[.int .i64 2, .int .i64 3, .int .i64 0]) ∧ Below w.heap.size w w' :=
  (pplace_yes 5 4 17 w (by decide)).mono fun e w' h => ⟨h.1.trans rfl, h.2⟩
theorem kn1 (w : World) : Calls Tryd.prog 22 #[.agg #[.int .i64 5, .int .i64 4], .int .i64 17] w fun e w' => e = .returned (.tuple #[.string ⟨#[99, 52]⟩, .int .i64 0]) ∧ Below w.heap.size w w' :=
  (pname_yes 5 4 17 w (by decide)).mono fun e w' h => ⟨h.1.trans rfl, h.2⟩
theorem kl1 (w : World) : Calls Tryd.prog 21 #[.agg #[.int .i64 5, .int .i64 4], .int .i64 17] w fun e w' => e = .returned (.tuple #[.bool true, .int .i64 0]) ∧ Below w.heap.size w w' :=
  (plight_yes 5 4 17 w (by decide)).mono fun e w' h => ⟨h.1.trans rfl, h.2⟩
theorem kl2 (w : World) : Calls Tryd.prog 21 #[.agg #[.int .i64 5, .int .i64 4], .int .i64 0] w fun e w' => e = .returned (.tuple #[.bool false, .int .i64 0]) ∧ Below w.heap.size w w' :=
  (plight_yes 5 4 0 w (by decide)).mono fun e w' h => ⟨h.1.trans rfl, h.2⟩
theorem kr1 (w : World) : Calls Tryd.prog 26 #[.agg #[.int .i64 5, .int .i64 4], .string ⟨#[101, 49]⟩] w fun e w' => e = .returned (.tuple #[.int .i64 4, .int .i64 0]) ∧ Below w.heap.size w w' :=
  (pparse_yes 5 4 ⟨#[101, 49]⟩ w (by decide) (by decide) (by decide) (by decide) (by decide)).mono fun e w' h => ⟨h.1.trans rfl, h.2⟩
theorem kr2 (w : World) : Calls Tryd.prog 26 #[.agg #[.int .i64 5, .int .i64 4], .string ⟨#[102, 49]⟩] w fun e w' => e = .returned (.tuple #[.int .i64 0, .int .i64 6]) ∧ Below w.heap.size w w' :=
  (pparse_no 5 4 ⟨#[102, 49]⟩ w (by decide) (by decide) (by decide) (by decide) (by decide)).mono fun e w' h => ⟨h.1.trans rfl, h.2⟩
theorem kr3 (w : World) : Calls Tryd.prog 26 #[.agg #[.int .i64 5, .int .i64 4], .string ⟨#[69, 49]⟩] w fun e w' => e = .returned (.tuple #[.int .i64 0, .int .i64 6]) ∧ Below w.heap.size w w' :=
  (pparse_no 5 4 ⟨#[69, 49]⟩ w (by decide) (by decide) (by decide) (by decide) (by decide)).mono fun e w' h => ⟨h.1.trans rfl, h.2⟩
theorem kd1 (w : World) : Calls Tryd.prog 28 #[.agg #[.int .i64 8, .int .i64 8], .int .i64 0, .int .i64 63] w fun e w' => e = .returned (.tuple #[.int .i64 7, .int .i64 0]) ∧ Below w.heap.size w w' :=
  (pdist_yes 8 8 0 63 w (by decide) (by decide)).mono fun e w' h => ⟨h.1.trans rfl, h.2⟩
theorem kd2 (w : World) : Calls Tryd.prog 28 #[.agg #[.int .i64 8, .int .i64 8], .int .i64 0, .int .i64 2] w fun e w' => e = .returned (.tuple #[.int .i64 2, .int .i64 0]) ∧ Below w.heap.size w w' :=
  (pdist_yes 8 8 0 2 w (by decide) (by decide)).mono fun e w' h => ⟨h.1.trans rfl, h.2⟩
theorem kal (w : World) : Calls Tryd.prog 11 #[.agg #[.int .i64 3, .int .i64 3]] w fun e w' => e = .returned (.tuple #[.int .u64 511, .int .i64 0]) ∧ Below w.heap.size w w' :=
  (pAll_yes 3 3 w (by decide)).mono fun e w' h => ⟨h.1.trans rfl, h.2⟩
theorem kof (b : Nat) (w : World) (hb : b < w.heap.size) (h0 : w.cell? ⟨b, 0, none⟩ = some (.int .i64 0)) (h1 : w.cell? ⟨b, 1, none⟩ = some (.int .i64 8)) (h2 : w.cell? ⟨b, 2, none⟩ = some (.int .i64 0)) : Calls Tryd.prog 34 #[.agg #[.int .i64 3, .int .i64 3], .slice (some ⟨b, 0, none⟩) 3 3] w fun e w' => e = .returned (.tuple #[.int .u64 257, .int .i64 0]) ∧ Below w.heap.size w w' := by
  have h := pof_yes 3 3 b 0 3 [0, 8, 0] w (by decide) (fun j hj => by
    have : j = 0 ∨ j = 1 ∨ j = 2 := by simp at hj; omega
    rcases this with rfl | rfl | rfl <;> decide) (by decide) hb (fun j hj => by
    have : j = 0 ∨ j = 1 ∨ j = 2 := by simp at hj; omega
    rcases this with rfl | rfl | rfl
    · exact h0
    · exact h1
    · exact h2)
  exact h.mono fun e w' h => ⟨h.1.trans rfl, h.2⟩
theorem sqs273 : sqs 273 = [0, 4, 8] := by
  rw [sqs_pos (by decide), show 273 &&& (273 - 1) = 272 by decide, sqs_pos (by decide), show 272 &&& (272 - 1) = 256 by decide, sqs_pos (by decide), show 256 &&& (256 - 1) = 0 by decide, sqs_zero]
  decide
theorem kshift (w : World) (hT : TabAt w) : Calls Tryd.prog 30 #[.agg #[.int .i64 3, .int .i64 3], .int .u64 273, .int .i64 1, .int .i64 0] w fun e w' => e = .returned (.tuple #[.int .u64 34, .int .i64 0]) ∧ Below w.heap.size w w' := by
  have h := pshift_in 3 3 1 0 273 w hT (by decide) (by decide) (by decide) (by decide) (by decide) (by decide) (by decide)
  rw [sqs273, show accS 3 3 1 0 [0, 4, 8] = 34 by decide] at h
  exact h.mono fun e w' h => ⟨h.1.trans rfl, h.2⟩

/-- the two boxes of the examples lie in W as they lay -/
structure KB (w w2 W : World) : Prop where
  b0 : W.cell? ⟨w2.heap.size, 0, none⟩ = some (.int .i64 5)
  b1 : W.cell? ⟨w2.heap.size, 1, none⟩ = some (.int .i64 4)
  c0 : W.cell? ⟨w2.heap.size + 1, 0, none⟩ = some (.int .i64 3)
  c1 : W.cell? ⟨w2.heap.size + 1, 1, none⟩ = some (.int .i64 3)
  lt : w2.heap.size + 1 < W.heap.size
  below : Below w.heap.size w W
theorem KB.next {w w2 W W' : World} (h : KB w w2 W) (hb : Below W.heap.size W W') : KB w w2 W' :=
  ⟨(hb.cell (p := ⟨w2.heap.size, 0, none⟩) (Nat.lt_trans (Nat.lt_succ_self _) h.lt)).trans h.b0, (hb.cell (p := ⟨w2.heap.size, 1, none⟩) (Nat.lt_trans (Nat.lt_succ_self _) h.lt)).trans h.b1, (hb.cell (p := ⟨w2.heap.size + 1, 0, none⟩) h.lt).trans h.c0, (hb.cell (p := ⟨w2.heap.size + 1, 1, none⟩) h.lt).trans h.c1, Nat.lt_of_lt_of_le h.lt hb.size, h.below.trans (hb.mono h.below.size)⟩
theorem KB.first {w w1 w2 : World} {t : TypeId} (hb1 : Below w.heap.size w w1) (hb2 : Below w1.heap.size w1 w2) : KB w w2 ((w2.alloc (.cells #[.int .i64 5, .int .i64 4] t)).alloc (.cells #[.int .i64 3, .int .i64 3] t)) :=
  ⟨by simp, by simp, by simp, by simp, by simp, ((hb1.trans (hb2.mono hb1.size)).alloc (Nat.le_trans hb1.size hb2.size) _).alloc (by have := hb1.size; have := hb2.size; simp; omega) _⟩

set_option maxRecDepth 100000 in
set_option maxHeartbeats 2000000 in
theorem known_1 (w : World) (hT : TabAt w) : Calls Tryd.prog 16 #[] w fun e w' => e = .returned (.bool true) ∧ Below w.heap.size w w' := by
  have hTH := Lib.hid hT
  have hpos := hT.pos
  clear hT
  go_enter Tryd.func16, Tryd.ntmps16
  go_wp2_with (fail)
  go_at_call 41
  refine (ksize _ _ _).mono ?_
  rintro e w1 ⟨rfl, hb1⟩
  go_wp2_with (fail)
  go_at_call 41
  refine (ksize _ _ _).mono ?_
  rintro e w2 ⟨rfl, hb2⟩
  have hK := Lib.hid (KB.first (t := 23) hb1 hb2)
  have b0 := hK.out.b0
  have b1 := hK.out.b1
  have c0 := hK.out.c0
  have c1 := hK.out.c1
  clear hb1 hb2
  go_wp2_with (fail)
  go_at_call 41
  refine (ksize _ _ _).mono ?_
  rintro e w' ⟨rfl, hb⟩; replace hK := Lib.hid (hK.out.next hb); replace b0 := hK.out.b0; replace b1 := hK.out.b1; replace c0 := hK.out.c0; replace c1 := hK.out.c1; clear hb
  go_wp2_with (fail)
  go_at_call 10
  refine (kc1 _).mono ?_
  rintro e w' ⟨rfl, hb⟩; replace hK := Lib.hid (hK.out.next hb); replace b0 := hK.out.b0; replace b1 := hK.out.b1; replace c0 := hK.out.c0; replace c1 := hK.out.c1; clear hb
  go_wp2_with (fail)
  go_at_call 41
  refine (ksize _ _ _).mono ?_
  rintro e w' ⟨rfl, hb⟩; replace hK := Lib.hid (hK.out.next hb); replace b0 := hK.out.b0; replace b1 := hK.out.b1; replace c0 := hK.out.c0; replace c1 := hK.out.c1; clear hb
  go_wp2_with (fail)
  go_at_call 10
  refine (kc2 _).mono ?_
  rintro e w' ⟨rfl, hb⟩; replace hK := Lib.hid (hK.out.next hb); replace b0 := hK.out.b0; replace b1 := hK.out.b1; replace c0 := hK.out.c0; replace c1 := hK.out.c1; clear hb
  go_wp2_with (fail)
  go_at_call 19
  refine (ka1 _).mono ?_
  rintro e w' ⟨rfl, hb⟩; replace hK := Lib.hid (hK.out.next hb); replace b0 := hK.out.b0; replace b1 := hK.out.b1; replace c0 := hK.out.c0; replace c1 := hK.out.c1; clear hb
  go_wp2_with (fail)
  go_at_call 19
  refine (ka2 _).mono ?_
  rintro e w' ⟨rfl, hb⟩; replace hK := Lib.hid (hK.out.next hb); replace b0 := hK.out.b0; replace b1 := hK.out.b1; replace c0 := hK.out.c0; replace c1 := hK.out.c1; clear hb
  go_wp2_with (fail)
  go_at_call 20
  refine (kp1 _).mono ?_
  rintro e w' ⟨rfl, hb⟩; replace hK := Lib.hid (hK.out.next hb); replace b0 := hK.out.b0; replace b1 := hK.out.b1; replace c0 := hK.out.c0; replace c1 := hK.out.c1; clear hb
  go_wp2_with (fail)
  go_at_call 22
  refine (kn1 _).mono ?_
  rintro e w' ⟨rfl, hb⟩; replace hK := Lib.hid (hK.out.next hb); replace b0 := hK.out.b0; replace b1 := hK.out.b1; replace c0 := hK.out.c0; replace c1 := hK.out.c1; clear hb
  go_wp2_with (fail)
  go_at_call 21
  refine (kl1 _).mono ?_
  rintro e w' ⟨rfl, hb⟩; replace hK := Lib.hid (hK.out.next hb); replace b0 := hK.out.b0; replace b1 := hK.out.b1; replace c0 := hK.out.c0; replace c1 := hK.out.c1; clear hb
  go_wp2_with (fail)
  go_at_call 21
  refine (kl2 _).mono ?_
  rintro e w' ⟨rfl, hb⟩; replace hK := Lib.hid (hK.out.next hb); replace b0 := hK.out.b0; replace b1 := hK.out.b1; replace c0 := hK.out.c0; replace c1 := hK.out.c1; clear hb
  go_wp2_with (fail)
  go_at_call 26
  refine (kr1 _).mono ?_
  rintro e w' ⟨rfl, hb⟩; replace hK := Lib.hid (hK.out.next hb); replace b0 := hK.out.b0; replace b1 := hK.out.b1; replace c0 := hK.out.c0; replace c1 := hK.out.c1; clear hb
  go_wp2_with (fail)
  go_at_call 26
  refine (kr2 _).mono ?_
  rintro e w' ⟨rfl, hb⟩; replace hK := Lib.hid (hK.out.next hb); replace b0 := hK.out.b0; replace b1 := hK.out.b1; replace c0 := hK.out.c0; replace c1 := hK.out.c1; clear hb
  go_wp2_with (fail)
  go_at_call 26
  refine (kr3 _).mono ?_
  rintro e w' ⟨rfl, hb⟩; replace hK := Lib.hid (hK.out.next hb); replace b0 := hK.out.b0; replace b1 := hK.out.b1; replace c0 := hK.out.c0; replace c1 := hK.out.c1; clear hb
  go_wp2_with (fail)
  go_at_call 41
  refine (ksize _ _ _).mono ?_
  rintro e w' ⟨rfl, hb⟩; replace hK := Lib.hid (hK.out.next hb); replace b0 := hK.out.b0; replace b1 := hK.out.b1; replace c0 := hK.out.c0; replace c1 := hK.out.c1; clear hb
  go_wp2_with (fail)
  go_at_call 28
  refine (kd1 _).mono ?_
  rintro e w' ⟨rfl, hb⟩; replace hK := Lib.hid (hK.out.next hb); replace b0 := hK.out.b0; replace b1 := hK.out.b1; replace c0 := hK.out.c0; replace c1 := hK.out.c1; clear hb
  go_wp2_with (fail)
  go_at_call 41
  refine (ksize _ _ _).mono ?_
  rintro e w' ⟨rfl, hb⟩; replace hK := Lib.hid (hK.out.next hb); replace b0 := hK.out.b0; replace b1 := hK.out.b1; replace c0 := hK.out.c0; replace c1 := hK.out.c1; clear hb
  go_wp2_with (fail)
  go_at_call 28
  refine (kd2 _).mono ?_
  rintro e w' ⟨rfl, hb⟩; replace hK := Lib.hid (hK.out.next hb); replace b0 := hK.out.b0; replace b1 := hK.out.b1; replace c0 := hK.out.c0; replace c1 := hK.out.c1; clear hb
  go_wp2_with (fail)
  go_at_call 34
  refine (kof _ _ (by simp) (by simp) (by simp) (by simp)).mono ?_
  rintro e w' ⟨rfl, hb⟩
  replace hK := Lib.hid (hK.out.next (below_box hb))
  replace b0 := hK.out.b0; replace b1 := hK.out.b1; replace c0 := hK.out.c0; replace c1 := hK.out.c1; clear hb
  go_wp2_with (fail)
  go_at_call 11
  refine (kal _).mono ?_
  rintro e w' ⟨rfl, hb⟩; replace hK := Lib.hid (hK.out.next hb); replace b0 := hK.out.b0; replace b1 := hK.out.b1; replace c0 := hK.out.c0; replace c1 := hK.out.c1; clear hb
  go_wp2_with (fail)
  go_at_call 30
  refine (kshift _ (hTH.out.below hpos hK.out.below)).mono ?_
  rintro e w' ⟨rfl, hb⟩; replace hK := Lib.hid (hK.out.next hb); replace b0 := hK.out.b0; replace b1 := hK.out.b1; replace c0 := hK.out.c0; replace c1 := hK.out.c1; clear hb
  go_wp2
  go_ret
  exact ⟨rfl, hK.out.below⟩
end Go.Proofs.YtjjchodcoeciaaaDoor
