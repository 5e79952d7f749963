/- Layer 1: the law of places. Printed by gen_sq.py. -/
import Derived.Test.YtjjchodcoeciaaaDoorQk
namespace Go.Proofs.YtjjchodcoeciaaaDoor
open Go.RowKit
set_option linter.unusedSimpArgs false
set_option linter.unusedVariables false

theorem rnumber_yes (f r x y : Int) (w : World) (hs : szB f r = true) (h : onB f r x y = true) : Calls Tryd.prog 23 #[.agg #[.int .i64 f, .int .i64 r], .int .i64 x, .int .i64 y] w fun e w' => e = .returned (.int .i64 (x + y * f)) ∧ Below w.heap.size w w' := by
  have hn := rnumber f r x y w hs
  rw [if_pos h] at hn
  exact hn
theorem rnumber_no (f r x y : Int) (w : World) (hs : szB f r = true) (h : onB f r x y = false) : Calls Tryd.prog 23 #[.agg #[.int .i64 f, .int .i64 r], .int .i64 x, .int .i64 y] w fun e w' => e = .returned (.int .i64 (-1)) ∧ Below w.heap.size w w' := by
  have hn := rnumber f r x y w hs
  rw [if_neg (by rw [h]; decide)] at hn
  exact hn
set_option maxRecDepth 100000 in
set_option maxHeartbeats 1000000 in
theorem places_arg (f r : Int) (x y a : Int) (w : World) (hT : TabAt w) (hs : szB f r = false) (hq : sqB f r a = false) : Calls Tryd.prog 4 #[.agg #[.int .i64 f, .int .i64 r], .int .i64 x, .int .i64 y, .int .i64 a] w fun e w' => e = .returned (.bool true) ∧ Below w.heap.size w w' := by
  have hTH := Lib.hid hT
  have hpos := hT.pos
  clear hT
  have hK := Lib.hid (BK.first f r w 23)
  have c0 := hK.out.c0
  have c1 := hK.out.c1
  go_enter Tryd.func4, Tryd.ntmps4
  go_wp2_with (first
    | (go_at_call 19; refine (pat_arg _ _ _ _ _ hs).mono ?_; rintro e w' ⟨rfl, hb⟩; replace hK := Lib.hid (hK.out.next hb); replace c0 := hK.out.c0; replace c1 := hK.out.c1; clear hb)
    | (go_at_call 20; refine (pplace_no _ _ _ _ hq).mono ?_; rintro e w' ⟨rfl, hb⟩; replace hK := Lib.hid (hK.out.next hb); replace c0 := hK.out.c0; replace c1 := hK.out.c1; clear hb)
    | (go_at_call 21; refine (plight_no _ _ _ _ hq).mono ?_; rintro e w' ⟨rfl, hb⟩; replace hK := Lib.hid (hK.out.next hb); replace c0 := hK.out.c0; replace c1 := hK.out.c1; clear hb)
    | (go_at_call 22; refine (pname_no _ _ _ _ hq).mono ?_; rintro e w' ⟨rfl, hb⟩; replace hK := Lib.hid (hK.out.next hb); replace c0 := hK.out.c0; replace c1 := hK.out.c1; clear hb)
    | (go_at_call 15; refine (rvalidsq _ _ _ _).mono ?_; rintro e w' ⟨rfl, hb⟩; rw [hq]; replace hK := Lib.hid (hK.out.next hb); replace c0 := hK.out.c0; replace c1 := hK.out.c1; clear hb)
    | (go_at_call 13; refine (rsize _ _ _).mono ?_; rintro e w' ⟨rfl, hb⟩; rw [hs]; replace hK := Lib.hid (hK.out.next hb); replace c0 := hK.out.c0; replace c1 := hK.out.c1; clear hb)
    | (go_at_call 16; refine (known_1 _ (hTH.out.below hpos hK.out.below)).mono ?_; rintro e w' ⟨rfl, hb⟩; replace hK := Lib.hid (hK.out.next hb); replace c0 := hK.out.c0; replace c1 := hK.out.c1; clear hb))
  go_ret
  exact ⟨rfl, hK.out.below⟩
set_option maxRecDepth 100000 in
set_option maxHeartbeats 1000000 in
theorem places_range_no (f r : Int) (x y a : Int) (w : World) (hT : TabAt w) (hs : szB f r = true) (ho : onB f r x y = false) (hq : sqB f r a = false) : Calls Tryd.prog 4 #[.agg #[.int .i64 f, .int .i64 r], .int .i64 x, .int .i64 y, .int .i64 a] w fun e w' => e = .returned (.bool true) ∧ Below w.heap.size w w' := by
  have hTH := Lib.hid hT
  have hpos := hT.pos
  clear hT
  have hK := Lib.hid (BK.first f r w 23)
  have c0 := hK.out.c0
  have c1 := hK.out.c1
  go_enter Tryd.func4, Tryd.ntmps4
  go_wp2_with (first
    | (go_at_call 19; refine (pat_range _ _ _ _ _ hs ho).mono ?_; rintro e w' ⟨rfl, hb⟩; replace hK := Lib.hid (hK.out.next hb); replace c0 := hK.out.c0; replace c1 := hK.out.c1; clear hb)
    | (go_at_call 23; refine (rnumber_no _ _ _ _ _ hs ho).mono ?_; rintro e w' ⟨rfl, hb⟩; replace hK := Lib.hid (hK.out.next hb); replace c0 := hK.out.c0; replace c1 := hK.out.c1; clear hb)
    | (go_at_call 13; refine (rsize _ _ _).mono ?_; rintro e w' ⟨rfl, hb⟩; rw [hs]; replace hK := Lib.hid (hK.out.next hb); replace c0 := hK.out.c0; replace c1 := hK.out.c1; clear hb)
    | (go_at_call 20; refine (pplace_no _ _ _ _ hq).mono ?_; rintro e w' ⟨rfl, hb⟩; replace hK := Lib.hid (hK.out.next hb); replace c0 := hK.out.c0; replace c1 := hK.out.c1; clear hb)
    | (go_at_call 21; refine (plight_no _ _ _ _ hq).mono ?_; rintro e w' ⟨rfl, hb⟩; replace hK := Lib.hid (hK.out.next hb); replace c0 := hK.out.c0; replace c1 := hK.out.c1; clear hb)
    | (go_at_call 22; refine (pname_no _ _ _ _ hq).mono ?_; rintro e w' ⟨rfl, hb⟩; replace hK := Lib.hid (hK.out.next hb); replace c0 := hK.out.c0; replace c1 := hK.out.c1; clear hb)
    | (go_at_call 15; refine (rvalidsq _ _ _ _).mono ?_; rintro e w' ⟨rfl, hb⟩; rw [hq]; replace hK := Lib.hid (hK.out.next hb); replace c0 := hK.out.c0; replace c1 := hK.out.c1; clear hb)
    | (go_at_call 16; refine (known_1 _ (hTH.out.below hpos hK.out.below)).mono ?_; rintro e w' ⟨rfl, hb⟩; replace hK := Lib.hid (hK.out.next hb); replace c0 := hK.out.c0; replace c1 := hK.out.c1; clear hb))
  go_ret
  exact ⟨rfl, hK.out.below⟩
set_option maxRecDepth 100000 in
set_option maxHeartbeats 1000000 in
theorem places_range_yes (f r : Int) (x y a : Int) (w : World) (hT : TabAt w) (hs : szB f r = true) (ho : onB f r x y = false) (hq : sqB f r a = true) : Calls Tryd.prog 4 #[.agg #[.int .i64 f, .int .i64 r], .int .i64 x, .int .i64 y, .int .i64 a] w fun e w' => e = .returned (.bool true) ∧ Below w.heap.size w w' := by
  have hTH := Lib.hid hT
  have hpos := hT.pos
  clear hT
  have hgt : ((a % f + a / f).tmod 2 == 1) = lightB f a := by
    obtain ⟨d0, d1, d2, d3, _⟩ := place_bd hq
    rw [Int.tmod_eq_emod_of_nonneg (by omega)]; rfl
  have hbd := Lib.hid (place_bd hq)
  have hw : IntKind.i64.wrap (a % f + a / f) = a % f + a / f := by
    obtain ⟨d0, d1, d2, d3, _⟩ := place_bd hq
    obtain ⟨f0, f1, r0, r1⟩ := szB_out hs
    exact IntWalk.i64_in _ (by omega)
  have hK := Lib.hid (BK.first f r w 23)
  have c0 := hK.out.c0
  have c1 := hK.out.c1
  go_enter Tryd.func4, Tryd.ntmps4
  go_wp2_with (first
    | (go_at_call 19; refine (pat_range _ _ _ _ _ hs ho).mono ?_; rintro e w' ⟨rfl, hb⟩; replace hK := Lib.hid (hK.out.next hb); replace c0 := hK.out.c0; replace c1 := hK.out.c1; clear hb)
    | (go_at_call 23; refine (rnumber_no _ _ _ _ _ hs ho).mono ?_; rintro e w' ⟨rfl, hb⟩; replace hK := Lib.hid (hK.out.next hb); replace c0 := hK.out.c0; replace c1 := hK.out.c1; clear hb)
    | (go_at_call 13; refine (rsize _ _ _).mono ?_; rintro e w' ⟨rfl, hb⟩; rw [hs]; replace hK := Lib.hid (hK.out.next hb); replace c0 := hK.out.c0; replace c1 := hK.out.c1; clear hb)
    | (go_at_call 20; refine (pplace_yes _ _ _ _ hq).mono ?_; rintro e w' ⟨rfl, hb⟩; replace hK := Lib.hid (hK.out.next hb); replace c0 := hK.out.c0; replace c1 := hK.out.c1; clear hb)
    | (go_at_call 21; refine (plight_yes _ _ _ _ hq).mono ?_; rintro e w' ⟨rfl, hb⟩; replace hK := Lib.hid (hK.out.next hb); replace c0 := hK.out.c0; replace c1 := hK.out.c1; clear hb)
    | (go_at_call 22; refine (pname_yes _ _ _ _ hq).mono ?_; rintro e w' ⟨rfl, hb⟩; replace hK := Lib.hid (hK.out.next hb); replace c0 := hK.out.c0; replace c1 := hK.out.c1; clear hb)
    | (go_at_call 15; refine (rvalidsq _ _ _ _).mono ?_; rintro e w' ⟨rfl, hb⟩; rw [hq]; replace hK := Lib.hid (hK.out.next hb); replace c0 := hK.out.c0; replace c1 := hK.out.c1; clear hb)
    | (go_at_call 24; refine (rplace _ _ _ _ hq).mono ?_; rintro e w' ⟨rfl, hb⟩; replace hK := Lib.hid (hK.out.next hb); replace c0 := hK.out.c0; replace c1 := hK.out.c1; clear hb; have hlt := hK.out.lt)
    | (go_at_call 25; refine (rname_yes _ _ _ _ hq).mono ?_; rintro e w' ⟨rfl, hb⟩; replace hK := Lib.hid (hK.out.next (below_box hb)); replace c0 := hK.out.c0; replace c1 := hK.out.c1; clear hb)
    | (go_at_call 16; refine (known_1 _ (hTH.out.below hpos hK.out.below)).mono ?_; rintro e w' ⟨rfl, hb⟩; replace hK := Lib.hid (hK.out.next hb); replace c0 := hK.out.c0; replace c1 := hK.out.c1; clear hb))
  go_ret
  exact ⟨rfl, hK.out.below⟩
set_option maxRecDepth 100000 in
set_option maxHeartbeats 1000000 in
theorem places_yes_no (f r : Int) (x y a : Int) (w : World) (hT : TabAt w) (hs : szB f r = true) (ho : onB f r x y = true) (hq : sqB f r a = false) : Calls Tryd.prog 4 #[.agg #[.int .i64 f, .int .i64 r], .int .i64 x, .int .i64 y, .int .i64 a] w fun e w' => e = .returned (.bool true) ∧ Below w.heap.size w w' := by
  have hTH := Lib.hid hT
  have hpos := hT.pos
  clear hT
  have hge : 0 ≤ x + y * f := (sqB_out (on_sq hs ho).1).2.1
  have hK := Lib.hid (BK.first f r w 23)
  have c0 := hK.out.c0
  have c1 := hK.out.c1
  go_enter Tryd.func4, Tryd.ntmps4
  go_wp2_with (first
    | (go_at_call 19; refine (pat_yes _ _ _ _ _ hs ho).mono ?_; rintro e w' ⟨rfl, hb⟩; replace hK := Lib.hid (hK.out.next hb); replace c0 := hK.out.c0; replace c1 := hK.out.c1; clear hb)
    | (go_at_call 23; refine (rnumber_yes _ _ _ _ _ hs ho).mono ?_; rintro e w' ⟨rfl, hb⟩; replace hK := Lib.hid (hK.out.next hb); replace c0 := hK.out.c0; replace c1 := hK.out.c1; clear hb)
    | (go_at_call 13; refine (rsize _ _ _).mono ?_; rintro e w' ⟨rfl, hb⟩; rw [hs]; replace hK := Lib.hid (hK.out.next hb); replace c0 := hK.out.c0; replace c1 := hK.out.c1; clear hb)
    | (go_at_call 20; refine (pplace_no _ _ _ _ hq).mono ?_; rintro e w' ⟨rfl, hb⟩; replace hK := Lib.hid (hK.out.next hb); replace c0 := hK.out.c0; replace c1 := hK.out.c1; clear hb)
    | (go_at_call 21; refine (plight_no _ _ _ _ hq).mono ?_; rintro e w' ⟨rfl, hb⟩; replace hK := Lib.hid (hK.out.next hb); replace c0 := hK.out.c0; replace c1 := hK.out.c1; clear hb)
    | (go_at_call 22; refine (pname_no _ _ _ _ hq).mono ?_; rintro e w' ⟨rfl, hb⟩; replace hK := Lib.hid (hK.out.next hb); replace c0 := hK.out.c0; replace c1 := hK.out.c1; clear hb)
    | (go_at_call 15; refine (rvalidsq _ _ _ _).mono ?_; rintro e w' ⟨rfl, hb⟩; rw [hq]; replace hK := Lib.hid (hK.out.next hb); replace c0 := hK.out.c0; replace c1 := hK.out.c1; clear hb)
    | (go_at_call 16; refine (known_1 _ (hTH.out.below hpos hK.out.below)).mono ?_; rintro e w' ⟨rfl, hb⟩; replace hK := Lib.hid (hK.out.next hb); replace c0 := hK.out.c0; replace c1 := hK.out.c1; clear hb))
  go_ret
  exact ⟨rfl, hK.out.below⟩
set_option maxRecDepth 100000 in
set_option maxHeartbeats 1000000 in
theorem places_yes_yes (f r : Int) (x y a : Int) (w : World) (hT : TabAt w) (hs : szB f r = true) (ho : onB f r x y = true) (hq : sqB f r a = true) : Calls Tryd.prog 4 #[.agg #[.int .i64 f, .int .i64 r], .int .i64 x, .int .i64 y, .int .i64 a] w fun e w' => e = .returned (.bool true) ∧ Below w.heap.size w w' := by
  have hTH := Lib.hid hT
  have hpos := hT.pos
  clear hT
  have hge : 0 ≤ x + y * f := (sqB_out (on_sq hs ho).1).2.1
  have hgt : ((a % f + a / f).tmod 2 == 1) = lightB f a := by
    obtain ⟨d0, d1, d2, d3, _⟩ := place_bd hq
    rw [Int.tmod_eq_emod_of_nonneg (by omega)]; rfl
  have hbd := Lib.hid (place_bd hq)
  have hw : IntKind.i64.wrap (a % f + a / f) = a % f + a / f := by
    obtain ⟨d0, d1, d2, d3, _⟩ := place_bd hq
    obtain ⟨f0, f1, r0, r1⟩ := szB_out hs
    exact IntWalk.i64_in _ (by omega)
  have hK := Lib.hid (BK.first f r w 23)
  have c0 := hK.out.c0
  have c1 := hK.out.c1
  go_enter Tryd.func4, Tryd.ntmps4
  go_wp2_with (first
    | (go_at_call 19; refine (pat_yes _ _ _ _ _ hs ho).mono ?_; rintro e w' ⟨rfl, hb⟩; replace hK := Lib.hid (hK.out.next hb); replace c0 := hK.out.c0; replace c1 := hK.out.c1; clear hb)
    | (go_at_call 23; refine (rnumber_yes _ _ _ _ _ hs ho).mono ?_; rintro e w' ⟨rfl, hb⟩; replace hK := Lib.hid (hK.out.next hb); replace c0 := hK.out.c0; replace c1 := hK.out.c1; clear hb)
    | (go_at_call 13; refine (rsize _ _ _).mono ?_; rintro e w' ⟨rfl, hb⟩; rw [hs]; replace hK := Lib.hid (hK.out.next hb); replace c0 := hK.out.c0; replace c1 := hK.out.c1; clear hb)
    | (go_at_call 20; refine (pplace_yes _ _ _ _ hq).mono ?_; rintro e w' ⟨rfl, hb⟩; replace hK := Lib.hid (hK.out.next hb); replace c0 := hK.out.c0; replace c1 := hK.out.c1; clear hb)
    | (go_at_call 21; refine (plight_yes _ _ _ _ hq).mono ?_; rintro e w' ⟨rfl, hb⟩; replace hK := Lib.hid (hK.out.next hb); replace c0 := hK.out.c0; replace c1 := hK.out.c1; clear hb)
    | (go_at_call 22; refine (pname_yes _ _ _ _ hq).mono ?_; rintro e w' ⟨rfl, hb⟩; replace hK := Lib.hid (hK.out.next hb); replace c0 := hK.out.c0; replace c1 := hK.out.c1; clear hb)
    | (go_at_call 15; refine (rvalidsq _ _ _ _).mono ?_; rintro e w' ⟨rfl, hb⟩; rw [hq]; replace hK := Lib.hid (hK.out.next hb); replace c0 := hK.out.c0; replace c1 := hK.out.c1; clear hb)
    | (go_at_call 24; refine (rplace _ _ _ _ hq).mono ?_; rintro e w' ⟨rfl, hb⟩; replace hK := Lib.hid (hK.out.next hb); replace c0 := hK.out.c0; replace c1 := hK.out.c1; clear hb; have hlt := hK.out.lt)
    | (go_at_call 25; refine (rname_yes _ _ _ _ hq).mono ?_; rintro e w' ⟨rfl, hb⟩; replace hK := Lib.hid (hK.out.next (below_box hb)); replace c0 := hK.out.c0; replace c1 := hK.out.c1; clear hb)
    | (go_at_call 16; refine (known_1 _ (hTH.out.below hpos hK.out.below)).mono ?_; rintro e w' ⟨rfl, hb⟩; replace hK := Lib.hid (hK.out.next hb); replace c0 := hK.out.c0; replace c1 := hK.out.c1; clear hb))
  go_ret
  exact ⟨rfl, hK.out.below⟩
theorem law_places (f r x y a : Int) (w : World) (hT : TabAt w) : Calls Tryd.prog 4 #[.agg #[.int .i64 f, .int .i64 r], .int .i64 x, .int .i64 y, .int .i64 a] w fun e w' => e = .returned (.bool true) ∧ Below w.heap.size w w' := by
  cases hs : szB f r
  · exact places_arg f r x y a w hT hs (sqB_sz hs)
  · cases ho : onB f r x y <;> cases hq : sqB f r a
    · exact places_range_no f r x y a w hT hs ho hq
    · exact places_range_yes f r x y a w hT hs ho hq
    · exact places_yes_no f r x y a w hT hs ho hq
    · exact places_yes_yes f r x y a w hT hs ho hq
end Go.Proofs.YtjjchodcoeciaaaDoor
