/- Layer 1: the law of sizes. Printed by gen_sq.py. -/
import Derived.Test.YtjjchodcoeciaaaDoorQq
import Derived.Deep.RegionHeld3
namespace Go.Proofs.YtjjchodcoeciaaaDoor
open Go.RowKit
set_option linter.unusedSimpArgs false
set_option linter.unusedVariables false

theorem undrew {w w' : World} (hb : Below w.drew.heap.size w.drew w') : Below w.heap.size w w' := ⟨hb.os, hb.tape, hb.output, hb.size, hb.block⟩
theorem rpoints' (f r : Int) (w : World) (hs : szB f r = true) : Calls Tryd.prog 17 #[.agg #[.int .i64 f, .int .i64 r]] w fun e w' => (∃ (A : Option Addr) (n c : Nat), e = .returned (.slice A n c) ∧ (n : Int) = f * r) ∧ Below w.heap.size w w' := by
  obtain ⟨f0, f1, r0, r1⟩ := szB_out hs
  obtain ⟨a, rfl⟩ : ∃ a : Nat, f = (a : Int) := ⟨f.toNat, by omega⟩
  obtain ⟨b, rfl⟩ : ∃ b : Nat, r = (b : Int) := ⟨r.toNat, by omega⟩
  refine (rpoints a b w hs).mono ?_
  rintro e w' ⟨⟨A, c, rfl⟩, hb⟩
  exact ⟨⟨A, b * a, c, rfl, by rw [Int.natCast_mul]; exact Int.mul_comm _ _⟩, hb⟩

set_option maxRecDepth 100000 in
set_option maxHeartbeats 1000000 in
theorem sizes_no (f r : Int) (a : Int) (w : World) (hT : TabAt w) (hs : szB f r = false) (hq : sqB f r a = false) : Calls Tryd.prog 3 #[.agg #[.int .i64 f, .int .i64 r], .int .i64 a] w fun e w' => e = .returned (.bool true) ∧ Below w.heap.size w w' := by
  have hTH := Lib.hid hT
  have hpos := hT.pos
  clear hT
  have hK := Lib.hid (BK.first f r w 23)
  have c0 := hK.out.c0
  have c1 := hK.out.c1
  go_enter Tryd.func3, Tryd.ntmps3
  go_wp2_with (first
    | (go_at_call 10; refine (pcount_no _ _ _ hs).mono ?_; rintro e w' ⟨rfl, hb⟩; replace hK : Hid (BK f r w w') := (by first | exact hK.out.next hb | exact hK.out.next (undrew hb)); replace c0 := hK.out.c0; replace c1 := hK.out.c1; clear hb)
    | (go_at_call 11; refine (pAll_no _ _ _ hs).mono ?_; rintro e w' ⟨rfl, hb⟩; replace hK : Hid (BK f r w w') := (by first | exact hK.out.next hb | exact hK.out.next (undrew hb)); replace c0 := hK.out.c0; replace c1 := hK.out.c1; clear hb))
  go_region_held3 (fun w' => w'.cell? ⟨w.heap.size, 0, none⟩ = some (.int .i64 f) ∧ w'.cell? ⟨w.heap.size, 1, none⟩ = some (.int .i64 r)) (first | exact ⟨c0, c1⟩ | go_keep)
    (first
    | (go_at_call 12; refine (pvsize _ _ _).mono ?_; rintro e w' ⟨rfl, hb⟩; rw [hs]; replace hK : Hid (BK f r w w') := (by first | exact hK.out.next hb | exact hK.out.next (undrew hb)); replace c0 := hK.out.c0; replace c1 := hK.out.c1; clear hb)
    | (go_at_call 13; refine (rsize _ _ _).mono ?_; rintro e w' ⟨rfl, hb⟩; rw [hs]; replace hK : Hid (BK f r w w') := (by first | exact hK.out.next hb | exact hK.out.next (undrew hb)); replace c0 := hK.out.c0; replace c1 := hK.out.c1; clear hb)
    | (go_at_call 14; refine (pvalidsq _ _ _ _).mono ?_; rintro e w' ⟨rfl, hb⟩; rw [hq]; replace hK : Hid (BK f r w w') := (by first | exact hK.out.next hb | exact hK.out.next (undrew hb)); replace c0 := hK.out.c0; replace c1 := hK.out.c1; clear hb)
    | (go_at_call 15; refine (rvalidsq _ _ _ _).mono ?_; rintro e w' ⟨rfl, hb⟩; rw [hq]; replace hK : Hid (BK f r w w') := (by first | exact hK.out.next hb | exact hK.out.next (undrew hb)); replace c0 := hK.out.c0; replace c1 := hK.out.c1; clear hb))
  all_goals
    go_wp2_with (first
    | (go_at_call 13; refine (rsize _ _ _).mono ?_; rintro e w' ⟨rfl, hb⟩; rw [hs]; replace hK : Hid (BK f r w w') := (by first | exact hK.out.next hb | exact hK.out.next (undrew hb)); replace c0 := hK.out.c0; replace c1 := hK.out.c1; clear hb)
    | (go_at_call 16; refine (known_1 _ (hTH.out.below hpos hK.out.below)).mono ?_; rintro e w' ⟨rfl, hb⟩; replace hK : Hid (BK f r w w') := (by first | exact hK.out.next hb | exact hK.out.next (undrew hb)); replace c0 := hK.out.c0; replace c1 := hK.out.c1; clear hb))
    go_ret
    exact ⟨rfl, hK.out.below⟩
set_option maxRecDepth 100000 in
set_option maxHeartbeats 1000000 in
theorem sizes_n (f r : Int) (a : Int) (w : World) (hT : TabAt w) (hs : szB f r = true) (hq : sqB f r a = false) : Calls Tryd.prog 3 #[.agg #[.int .i64 f, .int .i64 r], .int .i64 a] w fun e w' => e = .returned (.bool true) ∧ Below w.heap.size w w' := by
  have hTH := Lib.hid hT
  have hpos := hT.pos
  clear hT
  have hK := Lib.hid (BK.first f r w 23)
  have c0 := hK.out.c0
  have c1 := hK.out.c1
  go_enter Tryd.func3, Tryd.ntmps3
  go_wp2_with (first
    | (go_at_call 10; refine (pcount_yes _ _ _ hs).mono ?_; rintro e w' ⟨rfl, hb⟩; replace hK : Hid (BK f r w w') := (by first | exact hK.out.next hb | exact hK.out.next (undrew hb)); replace c0 := hK.out.c0; replace c1 := hK.out.c1; clear hb)
    | (go_at_call 11; refine (pAll_yes _ _ _ hs).mono ?_; rintro e w' ⟨rfl, hb⟩; replace hK : Hid (BK f r w w') := (by first | exact hK.out.next hb | exact hK.out.next (undrew hb)); replace c0 := hK.out.c0; replace c1 := hK.out.c1; clear hb))
  go_region_held3 (fun w' => w'.cell? ⟨w.heap.size, 0, none⟩ = some (.int .i64 f) ∧ w'.cell? ⟨w.heap.size, 1, none⟩ = some (.int .i64 r)) (first | exact ⟨c0, c1⟩ | go_keep)
    (first
    | (go_at_call 12; refine (pvsize _ _ _).mono ?_; rintro e w' ⟨rfl, hb⟩; rw [hs]; replace hK : Hid (BK f r w w') := (by first | exact hK.out.next hb | exact hK.out.next (undrew hb)); replace c0 := hK.out.c0; replace c1 := hK.out.c1; clear hb)
    | (go_at_call 13; refine (rsize _ _ _).mono ?_; rintro e w' ⟨rfl, hb⟩; rw [hs]; replace hK : Hid (BK f r w w') := (by first | exact hK.out.next hb | exact hK.out.next (undrew hb)); replace c0 := hK.out.c0; replace c1 := hK.out.c1; clear hb)
    | (go_at_call 14; refine (pvalidsq _ _ _ _).mono ?_; rintro e w' ⟨rfl, hb⟩; rw [hq]; replace hK : Hid (BK f r w w') := (by first | exact hK.out.next hb | exact hK.out.next (undrew hb)); replace c0 := hK.out.c0; replace c1 := hK.out.c1; clear hb)
    | (go_at_call 15; refine (rvalidsq _ _ _ _).mono ?_; rintro e w' ⟨rfl, hb⟩; rw [hq]; replace hK : Hid (BK f r w w') := (by first | exact hK.out.next hb | exact hK.out.next (undrew hb)); replace c0 := hK.out.c0; replace c1 := hK.out.c1; clear hb))
  all_goals
    go_wp2_with (first
    | (go_at_call 13; refine (rsize _ _ _).mono ?_; rintro e w' ⟨rfl, hb⟩; rw [hs]; replace hK : Hid (BK f r w w') := (by first | exact hK.out.next hb | exact hK.out.next (undrew hb)); replace c0 := hK.out.c0; replace c1 := hK.out.c1; clear hb)
    | (go_at_call 17; refine (rpoints' _ _ _ hs).mono ?_; rintro e w' ⟨⟨A, n, c, rfl, hn⟩, hb⟩; replace hK : Hid (BK f r w w') := (by first | exact hK.out.next hb | exact hK.out.next (undrew hb)); replace c0 := hK.out.c0; replace c1 := hK.out.c1; clear hb)
    | (go_at_call 18; refine (rall _ _ _ hs).mono ?_; rintro e w' ⟨rfl, hb⟩; replace hK : Hid (BK f r w w') := (by first | exact hK.out.next hb | exact hK.out.next (undrew hb)); replace c0 := hK.out.c0; replace c1 := hK.out.c1; clear hb)
    | (go_at_call 16; refine (known_1 _ (hTH.out.below hpos hK.out.below)).mono ?_; rintro e w' ⟨rfl, hb⟩; replace hK : Hid (BK f r w w') := (by first | exact hK.out.next hb | exact hK.out.next (undrew hb)); replace c0 := hK.out.c0; replace c1 := hK.out.c1; clear hb))
    go_ret
    exact ⟨rfl, hK.out.below⟩
set_option maxRecDepth 100000 in
set_option maxHeartbeats 1000000 in
theorem sizes_y (f r : Int) (a : Int) (w : World) (hT : TabAt w) (hs : szB f r = true) (hq : sqB f r a = true) : Calls Tryd.prog 3 #[.agg #[.int .i64 f, .int .i64 r], .int .i64 a] w fun e w' => e = .returned (.bool true) ∧ Below w.heap.size w w' := by
  have hTH := Lib.hid hT
  have hpos := hT.pos
  clear hT
  have hK := Lib.hid (BK.first f r w 23)
  have c0 := hK.out.c0
  have c1 := hK.out.c1
  go_enter Tryd.func3, Tryd.ntmps3
  go_wp2_with (first
    | (go_at_call 10; refine (pcount_yes _ _ _ hs).mono ?_; rintro e w' ⟨rfl, hb⟩; replace hK : Hid (BK f r w w') := (by first | exact hK.out.next hb | exact hK.out.next (undrew hb)); replace c0 := hK.out.c0; replace c1 := hK.out.c1; clear hb)
    | (go_at_call 11; refine (pAll_yes _ _ _ hs).mono ?_; rintro e w' ⟨rfl, hb⟩; replace hK : Hid (BK f r w w') := (by first | exact hK.out.next hb | exact hK.out.next (undrew hb)); replace c0 := hK.out.c0; replace c1 := hK.out.c1; clear hb))
  go_region_held3 (fun w' => w'.cell? ⟨w.heap.size, 0, none⟩ = some (.int .i64 f) ∧ w'.cell? ⟨w.heap.size, 1, none⟩ = some (.int .i64 r)) (first | exact ⟨c0, c1⟩ | go_keep)
    (first
    | (go_at_call 12; refine (pvsize _ _ _).mono ?_; rintro e w' ⟨rfl, hb⟩; rw [hs]; replace hK : Hid (BK f r w w') := (by first | exact hK.out.next hb | exact hK.out.next (undrew hb)); replace c0 := hK.out.c0; replace c1 := hK.out.c1; clear hb)
    | (go_at_call 13; refine (rsize _ _ _).mono ?_; rintro e w' ⟨rfl, hb⟩; rw [hs]; replace hK : Hid (BK f r w w') := (by first | exact hK.out.next hb | exact hK.out.next (undrew hb)); replace c0 := hK.out.c0; replace c1 := hK.out.c1; clear hb)
    | (go_at_call 14; refine (pvalidsq _ _ _ _).mono ?_; rintro e w' ⟨rfl, hb⟩; rw [hq]; replace hK : Hid (BK f r w w') := (by first | exact hK.out.next hb | exact hK.out.next (undrew hb)); replace c0 := hK.out.c0; replace c1 := hK.out.c1; clear hb)
    | (go_at_call 15; refine (rvalidsq _ _ _ _).mono ?_; rintro e w' ⟨rfl, hb⟩; rw [hq]; replace hK : Hid (BK f r w w') := (by first | exact hK.out.next hb | exact hK.out.next (undrew hb)); replace c0 := hK.out.c0; replace c1 := hK.out.c1; clear hb))
  all_goals
    go_wp2_with (first
    | (go_at_call 13; refine (rsize _ _ _).mono ?_; rintro e w' ⟨rfl, hb⟩; rw [hs]; replace hK : Hid (BK f r w w') := (by first | exact hK.out.next hb | exact hK.out.next (undrew hb)); replace c0 := hK.out.c0; replace c1 := hK.out.c1; clear hb)
    | (go_at_call 17; refine (rpoints' _ _ _ hs).mono ?_; rintro e w' ⟨⟨A, n, c, rfl, hn⟩, hb⟩; replace hK : Hid (BK f r w w') := (by first | exact hK.out.next hb | exact hK.out.next (undrew hb)); replace c0 := hK.out.c0; replace c1 := hK.out.c1; clear hb)
    | (go_at_call 18; refine (rall _ _ _ hs).mono ?_; rintro e w' ⟨rfl, hb⟩; replace hK : Hid (BK f r w w') := (by first | exact hK.out.next hb | exact hK.out.next (undrew hb)); replace c0 := hK.out.c0; replace c1 := hK.out.c1; clear hb)
    | (go_at_call 16; refine (known_1 _ (hTH.out.below hpos hK.out.below)).mono ?_; rintro e w' ⟨rfl, hb⟩; replace hK : Hid (BK f r w w') := (by first | exact hK.out.next hb | exact hK.out.next (undrew hb)); replace c0 := hK.out.c0; replace c1 := hK.out.c1; clear hb))
    go_ret
    exact ⟨rfl, hK.out.below⟩
theorem law_sizes (f r a : Int) (w : World) (hT : TabAt w) : Calls Tryd.prog 3 #[.agg #[.int .i64 f, .int .i64 r], .int .i64 a] w fun e w' => e = .returned (.bool true) ∧ Below w.heap.size w w' := by
  cases hs : szB f r
  · exact sizes_no f r a w hT hs (sqB_sz hs)
  · cases hq : sqB f r a
    · exact sizes_n f r a w hT hs hq
    · exact sizes_y f r a w hT hs hq
end Go.Proofs.YtjjchodcoeciaaaDoor
