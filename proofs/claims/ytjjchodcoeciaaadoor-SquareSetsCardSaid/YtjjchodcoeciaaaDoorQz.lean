/- Layer 1: the law of shifted sets. Printed by gen_sq.py. -/
import Derived.Test.YtjjchodcoeciaaaDoorQy
namespace Go.Proofs.YtjjchodcoeciaaaDoor
open Go.RowKit
set_option linter.unusedSimpArgs false
set_option linter.unusedVariables false

theorem LI_cases (m : Nat) : LI m 64 = [] ∨ ∃ L0 x, LI m 64 = L0 ++ [x] := by
  rcases List.eq_nil_or_concat (LI m 64) with h | ⟨L0, x, h⟩
  · exact .inl h
  · exact .inr ⟨L0, x, by simpa using h⟩
theorem ron_on (f r : Int) (m : Nat) (w : World) (hs : szB f r = true) (h : ∀ x ∈ LI m 64, x < f * r) : Calls Tryd.prog 31 #[.agg #[.int .i64 f, .int .i64 r], .int .u64 (m : Int)] w fun e w' => e = .returned (.bool true) ∧ Below w.heap.size w w' := by
  rcases LI_cases m with hL | ⟨L0, x, hL⟩
  · exact ron_nil f r m w hs hL
  · have h1 := ron_last f r x L0 m w hs hL
    rw [decide_eq_true (h x (by rw [hL]; simp))] at h1
    exact h1
theorem ron_off (f r : Int) (m : Nat) (w : World) (hs : szB f r = true) (h : ¬ ∀ x ∈ LI m 64, x < f * r) : Calls Tryd.prog 31 #[.agg #[.int .i64 f, .int .i64 r], .int .u64 (m : Int)] w fun e w' => e = .returned (.bool false) ∧ Below w.heap.size w w' := by
  rcases LI_cases m with hL | ⟨L0, x, hL⟩
  · exact absurd (by rw [hL]; simp) h
  · have h1 := ron_last f r x L0 m w hs hL
    have hp := LI_sorted m 64
    rw [hL] at hp h
    rw [decide_eq_false (fun hx => h ((last_all hp).2 hx))] at h1
    exact h1
theorem on_sqs {f r : Int} {m : Nat} (hs : szB f r = true) (h : ∀ x ∈ LI m 64, x < f * r) : ∀ x ∈ LI m 64, sqB f r x = true := fun x hx => by
  rw [sqB_in hs]; exact decide_eq_true ⟨(LI_mem hx).1, h x hx⟩
theorem rshift_in (f r dx dy : Int) (m : Nat) (w : World) (hm : m < 18446744073709551616) (hs : szB f r = true) (h : ∀ x ∈ LI m 64, x < f * r) (x0 : -8 ≤ dx) (x1 : dx ≤ 8) (y0 : -8 ≤ dy) (y1 : dy ≤ 8) :
    Calls Tryd.prog 32 #[.agg #[.int .i64 f, .int .i64 r], .int .u64 (m : Int), .int .i64 dx, .int .i64 dy] w fun e w' => e = .returned (.int .u64 (accS f r dx dy (sqs m) : Nat)) ∧ Below w.heap.size w w' := by
  have h1 := rshift f r dx dy m w hs (on_sqs hs h) x0 x1 y0 y1
  rw [shift_same f r dx dy m hm] at h1
  exact h1
theorem rshift_far (f r dx dy : Int) (m : Nat) (w : World) (hs : szB f r = true) (h : ∀ x ∈ LI m 64, x < f * r) (x0 : -8 ≤ dx) (x1 : dx ≤ 8) (y0 : -8 ≤ dy) (y1 : dy ≤ 8) (hn : ¬ ((-f < dx ∧ dx < f) ∧ -r < dy ∧ dy < r)) :
    Calls Tryd.prog 32 #[.agg #[.int .i64 f, .int .i64 r], .int .u64 (m : Int), .int .i64 dx, .int .i64 dy] w fun e w' => e = .returned (.int .u64 0) ∧ Below w.heap.size w w' := by
  have h1 := rshift f r dx dy m w hs (on_sqs hs h) x0 x1 y0 y1
  rw [nl_far (by have := (szB_out hs).1; omega) hn _ (on_sqs hs h)] at h1
  exact h1

set_option maxRecDepth 100000 in
set_option maxHeartbeats 1000000 in
theorem shifts_no (f r : Int) (m : Nat) (dx dy : Int) (w : World) (hT : TabAt w) (hs : szB f r = false) : Calls Tryd.prog 7 #[.agg #[.int .i64 f, .int .i64 r], .int .u64 (m : Int), .int .i64 dx, .int .i64 dy] w fun e w' => e = .returned (.bool true) ∧ Below w.heap.size w w' := by
  have hTH := Lib.hid hT
  have hpos := hT.pos
  clear hT
  have hK := Lib.hid (BK.first f r w 23)
  have c0 := hK.out.c0
  have c1 := hK.out.c1
  go_enter Tryd.func7, Tryd.ntmps7
  go_wp2_with (first
    | (go_at_call 30; refine (pshift_no _ _ _ _ _ _ hs).mono ?_; rintro e w' ⟨rfl, hb⟩; replace hK := Lib.hid (hK.out.next hb); replace c0 := hK.out.c0; replace c1 := hK.out.c1; clear hb)
    | (go_at_call 31; refine (ron_no _ _ _ _ hs).mono ?_; rintro e w' ⟨rfl, hb⟩; replace hK := Lib.hid (hK.out.next hb); replace c0 := hK.out.c0; replace c1 := hK.out.c1; clear hb)
    | (go_at_call 16; refine (known_1 _ (hTH.out.below hpos hK.out.below)).mono ?_; rintro e w' ⟨rfl, hb⟩; replace hK := Lib.hid (hK.out.next hb); replace c0 := hK.out.c0; replace c1 := hK.out.c1; clear hb))
  go_ret
  exact ⟨rfl, hK.out.below⟩
set_option maxRecDepth 100000 in
set_option maxHeartbeats 1000000 in
theorem shifts_off (f r : Int) (m : Nat) (dx dy : Int) (w : World) (hT : TabAt w) (hs : szB f r = true) (hm : m < 18446744073709551616) (hand : m &&& (18446744073709551615 - allV f r) ≠ 0) (hoff : ¬ ∀ x ∈ LI m 64, x < f * r) : Calls Tryd.prog 7 #[.agg #[.int .i64 f, .int .i64 r], .int .u64 (m : Int), .int .i64 dx, .int .i64 dy] w fun e w' => e = .returned (.bool true) ∧ Below w.heap.size w w' := by
  have hTH := Lib.hid hT
  have hpos := hT.pos
  clear hT
  have hK := Lib.hid (BK.first f r w 23)
  have c0 := hK.out.c0
  have c1 := hK.out.c1
  go_enter Tryd.func7, Tryd.ntmps7
  go_wp2_with (first
    | (go_at_call 30; refine (pshift_set _ _ _ _ _ _ hs hm hand).mono ?_; rintro e w' ⟨rfl, hb⟩; replace hK := Lib.hid (hK.out.next hb); replace c0 := hK.out.c0; replace c1 := hK.out.c1; clear hb)
    | (go_at_call 31; refine (ron_off _ _ _ _ hs hoff).mono ?_; rintro e w' ⟨rfl, hb⟩; replace hK := Lib.hid (hK.out.next hb); replace c0 := hK.out.c0; replace c1 := hK.out.c1; clear hb)
    | (go_at_call 16; refine (known_1 _ (hTH.out.below hpos hK.out.below)).mono ?_; rintro e w' ⟨rfl, hb⟩; replace hK := Lib.hid (hK.out.next hb); replace c0 := hK.out.c0; replace c1 := hK.out.c1; clear hb))
  go_ret
  exact ⟨rfl, hK.out.below⟩
set_option maxRecDepth 100000 in
set_option maxHeartbeats 1000000 in
theorem shifts_out0 (f r : Int) (m : Nat) (dx dy : Int) (w : World) (hT : TabAt w) (hs : szB f r = true) (hm : m < 18446744073709551616) (hand : m &&& (18446744073709551615 - allV f r) = 0) (hon : Hid (∀ x ∈ LI m 64, x < f * r)) (hfar : Hid (¬ ((-f < dx ∧ dx < f) ∧ -r < dy ∧ dy < r))) (h1 : dx < -8) : Calls Tryd.prog 7 #[.agg #[.int .i64 f, .int .i64 r], .int .u64 (m : Int), .int .i64 dx, .int .i64 dy] w fun e w' => e = .returned (.bool true) ∧ Below w.heap.size w w' := by
  have hTH := Lib.hid hT
  have hpos := hT.pos
  clear hT
  have hK := Lib.hid (BK.first f r w 23)
  have c0 := hK.out.c0
  have c1 := hK.out.c1
  go_enter Tryd.func7, Tryd.ntmps7
  go_wp2_with (first
    | (go_at_call 30; refine (pshift_far _ _ _ _ _ _ hs hm hand hfar.out).mono ?_; rintro e w' ⟨rfl, hb⟩; replace hK := Lib.hid (hK.out.next hb); replace c0 := hK.out.c0; replace c1 := hK.out.c1; clear hb)
    | (go_at_call 31; refine (ron_on _ _ _ _ hs hon.out).mono ?_; rintro e w' ⟨rfl, hb⟩; replace hK := Lib.hid (hK.out.next hb); replace c0 := hK.out.c0; replace c1 := hK.out.c1; clear hb)
    | (go_at_call 16; refine (known_1 _ (hTH.out.below hpos hK.out.below)).mono ?_; rintro e w' ⟨rfl, hb⟩; replace hK := Lib.hid (hK.out.next hb); replace c0 := hK.out.c0; replace c1 := hK.out.c1; clear hb))
  go_ret
  exact ⟨rfl, hK.out.below⟩
set_option maxRecDepth 100000 in
set_option maxHeartbeats 1000000 in
theorem shifts_out1 (f r : Int) (m : Nat) (dx dy : Int) (w : World) (hT : TabAt w) (hs : szB f r = true) (hm : m < 18446744073709551616) (hand : m &&& (18446744073709551615 - allV f r) = 0) (hon : Hid (∀ x ∈ LI m 64, x < f * r)) (hfar : Hid (¬ ((-f < dx ∧ dx < f) ∧ -r < dy ∧ dy < r))) (h1 : -8 ≤ dx) (h2 : 8 < dx) : Calls Tryd.prog 7 #[.agg #[.int .i64 f, .int .i64 r], .int .u64 (m : Int), .int .i64 dx, .int .i64 dy] w fun e w' => e = .returned (.bool true) ∧ Below w.heap.size w w' := by
  have hTH := Lib.hid hT
  have hpos := hT.pos
  clear hT
  have hK := Lib.hid (BK.first f r w 23)
  have c0 := hK.out.c0
  have c1 := hK.out.c1
  go_enter Tryd.func7, Tryd.ntmps7
  go_wp2_with (first
    | (go_at_call 30; refine (pshift_far _ _ _ _ _ _ hs hm hand hfar.out).mono ?_; rintro e w' ⟨rfl, hb⟩; replace hK := Lib.hid (hK.out.next hb); replace c0 := hK.out.c0; replace c1 := hK.out.c1; clear hb)
    | (go_at_call 31; refine (ron_on _ _ _ _ hs hon.out).mono ?_; rintro e w' ⟨rfl, hb⟩; replace hK := Lib.hid (hK.out.next hb); replace c0 := hK.out.c0; replace c1 := hK.out.c1; clear hb)
    | (go_at_call 16; refine (known_1 _ (hTH.out.below hpos hK.out.below)).mono ?_; rintro e w' ⟨rfl, hb⟩; replace hK := Lib.hid (hK.out.next hb); replace c0 := hK.out.c0; replace c1 := hK.out.c1; clear hb))
  go_ret
  exact ⟨rfl, hK.out.below⟩
set_option maxRecDepth 100000 in
set_option maxHeartbeats 1000000 in
theorem shifts_out2 (f r : Int) (m : Nat) (dx dy : Int) (w : World) (hT : TabAt w) (hs : szB f r = true) (hm : m < 18446744073709551616) (hand : m &&& (18446744073709551615 - allV f r) = 0) (hon : Hid (∀ x ∈ LI m 64, x < f * r)) (hfar : Hid (¬ ((-f < dx ∧ dx < f) ∧ -r < dy ∧ dy < r))) (h1 : -8 ≤ dx) (h2 : dx ≤ 8) (h3 : dy < -8) : Calls Tryd.prog 7 #[.agg #[.int .i64 f, .int .i64 r], .int .u64 (m : Int), .int .i64 dx, .int .i64 dy] w fun e w' => e = .returned (.bool true) ∧ Below w.heap.size w w' := by
  have hTH := Lib.hid hT
  have hpos := hT.pos
  clear hT
  have hK := Lib.hid (BK.first f r w 23)
  have c0 := hK.out.c0
  have c1 := hK.out.c1
  go_enter Tryd.func7, Tryd.ntmps7
  go_wp2_with (first
    | (go_at_call 30; refine (pshift_far _ _ _ _ _ _ hs hm hand hfar.out).mono ?_; rintro e w' ⟨rfl, hb⟩; replace hK := Lib.hid (hK.out.next hb); replace c0 := hK.out.c0; replace c1 := hK.out.c1; clear hb)
    | (go_at_call 31; refine (ron_on _ _ _ _ hs hon.out).mono ?_; rintro e w' ⟨rfl, hb⟩; replace hK := Lib.hid (hK.out.next hb); replace c0 := hK.out.c0; replace c1 := hK.out.c1; clear hb)
    | (go_at_call 16; refine (known_1 _ (hTH.out.below hpos hK.out.below)).mono ?_; rintro e w' ⟨rfl, hb⟩; replace hK := Lib.hid (hK.out.next hb); replace c0 := hK.out.c0; replace c1 := hK.out.c1; clear hb))
  go_ret
  exact ⟨rfl, hK.out.below⟩
set_option maxRecDepth 100000 in
set_option maxHeartbeats 1000000 in
theorem shifts_out3 (f r : Int) (m : Nat) (dx dy : Int) (w : World) (hT : TabAt w) (hs : szB f r = true) (hm : m < 18446744073709551616) (hand : m &&& (18446744073709551615 - allV f r) = 0) (hon : Hid (∀ x ∈ LI m 64, x < f * r)) (hfar : Hid (¬ ((-f < dx ∧ dx < f) ∧ -r < dy ∧ dy < r))) (h1 : -8 ≤ dx) (h2 : dx ≤ 8) (h3 : -8 ≤ dy) (h4 : 8 < dy) : Calls Tryd.prog 7 #[.agg #[.int .i64 f, .int .i64 r], .int .u64 (m : Int), .int .i64 dx, .int .i64 dy] w fun e w' => e = .returned (.bool true) ∧ Below w.heap.size w w' := by
  have hTH := Lib.hid hT
  have hpos := hT.pos
  clear hT
  have hK := Lib.hid (BK.first f r w 23)
  have c0 := hK.out.c0
  have c1 := hK.out.c1
  go_enter Tryd.func7, Tryd.ntmps7
  go_wp2_with (first
    | (go_at_call 30; refine (pshift_far _ _ _ _ _ _ hs hm hand hfar.out).mono ?_; rintro e w' ⟨rfl, hb⟩; replace hK := Lib.hid (hK.out.next hb); replace c0 := hK.out.c0; replace c1 := hK.out.c1; clear hb)
    | (go_at_call 31; refine (ron_on _ _ _ _ hs hon.out).mono ?_; rintro e w' ⟨rfl, hb⟩; replace hK := Lib.hid (hK.out.next hb); replace c0 := hK.out.c0; replace c1 := hK.out.c1; clear hb)
    | (go_at_call 16; refine (known_1 _ (hTH.out.below hpos hK.out.below)).mono ?_; rintro e w' ⟨rfl, hb⟩; replace hK := Lib.hid (hK.out.next hb); replace c0 := hK.out.c0; replace c1 := hK.out.c1; clear hb))
  go_ret
  exact ⟨rfl, hK.out.below⟩
set_option maxRecDepth 100000 in
set_option maxHeartbeats 1000000 in
theorem shifts_far (f r : Int) (m : Nat) (dx dy : Int) (w : World) (hT : TabAt w) (hs : szB f r = true) (hm : m < 18446744073709551616) (hand : m &&& (18446744073709551615 - allV f r) = 0) (hon : Hid (∀ x ∈ LI m 64, x < f * r)) (hfar : Hid (¬ ((-f < dx ∧ dx < f) ∧ -r < dy ∧ dy < r))) (x0 : -8 ≤ dx) (x1 : dx ≤ 8) (y0 : -8 ≤ dy) (y1 : dy ≤ 8)  : Calls Tryd.prog 7 #[.agg #[.int .i64 f, .int .i64 r], .int .u64 (m : Int), .int .i64 dx, .int .i64 dy] w fun e w' => e = .returned (.bool true) ∧ Below w.heap.size w w' := by
  have hTH := Lib.hid hT
  have hpos := hT.pos
  clear hT
  have hK := Lib.hid (BK.first f r w 23)
  have c0 := hK.out.c0
  have c1 := hK.out.c1
  go_enter Tryd.func7, Tryd.ntmps7
  go_wp2_with (first
    | (go_at_call 30; refine (pshift_far _ _ _ _ _ _ hs hm hand hfar.out).mono ?_; rintro e w' ⟨rfl, hb⟩; replace hK := Lib.hid (hK.out.next hb); replace c0 := hK.out.c0; replace c1 := hK.out.c1; clear hb)
    | (go_at_call 31; refine (ron_on _ _ _ _ hs hon.out).mono ?_; rintro e w' ⟨rfl, hb⟩; replace hK := Lib.hid (hK.out.next hb); replace c0 := hK.out.c0; replace c1 := hK.out.c1; clear hb)
    | (go_at_call 32; refine (rshift_far _ _ _ _ _ _ hs hon.out x0 x1 y0 y1 hfar.out).mono ?_; rintro e w' ⟨rfl, hb⟩; replace hK := Lib.hid (hK.out.next hb); replace c0 := hK.out.c0; replace c1 := hK.out.c1; clear hb)
    | (go_at_call 16; refine (known_1 _ (hTH.out.below hpos hK.out.below)).mono ?_; rintro e w' ⟨rfl, hb⟩; replace hK := Lib.hid (hK.out.next hb); replace c0 := hK.out.c0; replace c1 := hK.out.c1; clear hb))
  go_ret
  exact ⟨rfl, hK.out.below⟩
set_option maxRecDepth 100000 in
set_option maxHeartbeats 1000000 in
theorem shifts_in (f r : Int) (m : Nat) (dx dy : Int) (w : World) (hT : TabAt w) (hs : szB f r = true) (hm : m < 18446744073709551616) (hand : m &&& (18446744073709551615 - allV f r) = 0) (hon : Hid (∀ x ∈ LI m 64, x < f * r)) (hnear : Hid ((-f < dx ∧ dx < f) ∧ -r < dy ∧ dy < r)) (x0 : -8 ≤ dx) (x1 : dx ≤ 8) (y0 : -8 ≤ dy) (y1 : dy ≤ 8)  : Calls Tryd.prog 7 #[.agg #[.int .i64 f, .int .i64 r], .int .u64 (m : Int), .int .i64 dx, .int .i64 dy] w fun e w' => e = .returned (.bool true) ∧ Below w.heap.size w w' := by
  have hTH := Lib.hid hT
  have hpos := hT.pos
  clear hT
  have hK := Lib.hid (BK.first f r w 23)
  have c0 := hK.out.c0
  have c1 := hK.out.c1
  go_enter Tryd.func7, Tryd.ntmps7
  go_wp2_with (first
    | (go_at_call 30; refine (pshift_in _ _ _ _ _ _ (hTH.out.below hpos hK.out.below) hs hm hand hnear.out.1.1 hnear.out.1.2 hnear.out.2.1 hnear.out.2.2).mono ?_; rintro e w' ⟨rfl, hb⟩; replace hK := Lib.hid (hK.out.next hb); replace c0 := hK.out.c0; replace c1 := hK.out.c1; clear hb)
    | (go_at_call 31; refine (ron_on _ _ _ _ hs hon.out).mono ?_; rintro e w' ⟨rfl, hb⟩; replace hK := Lib.hid (hK.out.next hb); replace c0 := hK.out.c0; replace c1 := hK.out.c1; clear hb)
    | (go_at_call 32; refine (rshift_in _ _ _ _ _ _ hm hs hon.out x0 x1 y0 y1).mono ?_; rintro e w' ⟨rfl, hb⟩; replace hK := Lib.hid (hK.out.next hb); replace c0 := hK.out.c0; replace c1 := hK.out.c1; clear hb)
    | (go_at_call 16; refine (known_1 _ (hTH.out.below hpos hK.out.below)).mono ?_; rintro e w' ⟨rfl, hb⟩; replace hK := Lib.hid (hK.out.next hb); replace c0 := hK.out.c0; replace c1 := hK.out.c1; clear hb))
  go_ret
  exact ⟨rfl, hK.out.below⟩
theorem wf_u64 {n : Int} (h : (Lit.int .u64 n).wf = true) : 0 ≤ n ∧ n ≤ 18446744073709551615 := by
  unfold Lit.wf at h
  rw [Bool.and_eq_true, decide_eq_true_eq, decide_eq_true_eq] at h
  rw [show IntKind.u64.min = 0 by rfl, show IntKind.u64.max = 18446744073709551615 by rfl] at h
  exact h
theorem law_shifts (f r a dx dy : Int) (w : World) (hT : TabAt w) (hw : (Lit.int .u64 a).wf = true) : Calls Tryd.prog 7 #[.agg #[.int .i64 f, .int .i64 r], .int .u64 a, .int .i64 dx, .int .i64 dy] w fun e w' => e = .returned (.bool true) ∧ Below w.heap.size w w' := by
  obtain ⟨a0, a1⟩ := wf_u64 hw
  obtain ⟨m, rfl⟩ : ∃ m : Nat, a = (m : Int) := ⟨a.toNat, by omega⟩
  have hm : m < 18446744073709551616 := by omega
  cases hs : szB f r
  · exact shifts_no f r m dx dy w hT hs
  · obtain ⟨f0, f1, r0, r1⟩ := szB_out hs
    have hi := hand_iff hs m hm
    by_cases hand : m &&& (18446744073709551615 - allV f r) = 0
    · have hon := Lib.hid (hi.1 hand)
      by_cases hnear : (-f < dx ∧ dx < f) ∧ -r < dy ∧ dy < r
      · exact shifts_in f r m dx dy w hT hs hm hand hon hnear (by omega) (by omega) (by omega) (by omega)
      · rcases (by omega : dx < -8 ∨ (-8 ≤ dx ∧ 8 < dx) ∨ ((-8 ≤ dx ∧ dx ≤ 8) ∧ dy < -8) ∨ ((-8 ≤ dx ∧ dx ≤ 8) ∧ -8 ≤ dy ∧ 8 < dy) ∨ ((-8 ≤ dx ∧ dx ≤ 8) ∧ -8 ≤ dy ∧ dy ≤ 8)) with h | ⟨h, k⟩ | ⟨⟨h, k⟩, l⟩ | ⟨⟨h, k⟩, l, n⟩ | ⟨⟨h, k⟩, l, n⟩
        · exact shifts_out0 f r m dx dy w hT hs hm hand hon hnear h
        · exact shifts_out1 f r m dx dy w hT hs hm hand hon hnear h k
        · exact shifts_out2 f r m dx dy w hT hs hm hand hon hnear h k l
        · exact shifts_out3 f r m dx dy w hT hs hm hand hon hnear h k l n
        · exact shifts_far f r m dx dy w hT hs hm hand hon hnear h k l n
    · exact shifts_off f r m dx dy w hT hs hm hand (fun h => hand (hi.2 h))
end Go.Proofs.YtjjchodcoeciaaaDoor
