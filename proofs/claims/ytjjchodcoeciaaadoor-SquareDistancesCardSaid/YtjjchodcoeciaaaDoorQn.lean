/- Layer 1: the law of distances. Printed by gen_sq.py. -/
import Derived.Test.YtjjchodcoeciaaaDoorQm
namespace Go.Proofs.YtjjchodcoeciaaaDoor
open Go.RowKit
set_option linter.unusedSimpArgs false
set_option linter.unusedVariables false

set_option maxRecDepth 100000 in
set_option maxHeartbeats 1000000 in
theorem distances_a (f r : Int) (a b : Int) (w : World) (hT : TabAt w) (ha : sqB f r a = false) : Calls Tryd.prog 6 #[.agg #[.int .i64 f, .int .i64 r], .int .i64 a, .int .i64 b] w fun e w' => e = .returned (.bool true) ∧ Below w.heap.size w w' := by
  have hTH := Lib.hid hT
  have hpos := hT.pos
  clear hT
  have hK := Lib.hid (BK.first f r w 23)
  have c0 := hK.out.c0
  have c1 := hK.out.c1
  go_enter Tryd.func6, Tryd.ntmps6
  go_wp2_with (first
    | (go_at_call 28; refine (pdist_no _ _ _ _ _ (.inl ha)).mono ?_; rintro e w' ⟨rfl, hb⟩; replace hK := Lib.hid (hK.out.next hb); replace c0 := hK.out.c0; replace c1 := hK.out.c1; clear hb)
    | (go_at_call 15; refine (rvalidsq _ _ _ _).mono ?_; rintro e w' ⟨rfl, hb⟩; rw [ha]; replace hK := Lib.hid (hK.out.next hb); replace c0 := hK.out.c0; replace c1 := hK.out.c1; clear hb)
    | (go_at_call 16; refine (known_1 _ (hTH.out.below hpos hK.out.below)).mono ?_; rintro e w' ⟨rfl, hb⟩; replace hK := Lib.hid (hK.out.next hb); replace c0 := hK.out.c0; replace c1 := hK.out.c1; clear hb))
  go_ret
  exact ⟨rfl, hK.out.below⟩
set_option maxRecDepth 100000 in
set_option maxHeartbeats 1000000 in
theorem distances_b (f r : Int) (a b : Int) (w : World) (hT : TabAt w) (ha : sqB f r a = true) (hv : sqB f r b = false) : Calls Tryd.prog 6 #[.agg #[.int .i64 f, .int .i64 r], .int .i64 a, .int .i64 b] w fun e w' => e = .returned (.bool true) ∧ Below w.heap.size w w' := by
  have hTH := Lib.hid hT
  have hpos := hT.pos
  clear hT
  have hK := Lib.hid (BK.first f r w 23)
  have c0 := hK.out.c0
  have c1 := hK.out.c1
  go_enter Tryd.func6, Tryd.ntmps6
  go_wp2_with (first
    | (go_at_call 28; refine (pdist_no _ _ _ _ _ (.inr hv)).mono ?_; rintro e w' ⟨rfl, hb⟩; replace hK := Lib.hid (hK.out.next hb); replace c0 := hK.out.c0; replace c1 := hK.out.c1; clear hb)
    | (go_at_call 15; refine (rvalidsq _ _ _ _).mono ?_; rintro e w' ⟨rfl, hb⟩; (first | rw [ha] | rw [hv]); replace hK := Lib.hid (hK.out.next hb); replace c0 := hK.out.c0; replace c1 := hK.out.c1; clear hb)
    | (go_at_call 16; refine (known_1 _ (hTH.out.below hpos hK.out.below)).mono ?_; rintro e w' ⟨rfl, hb⟩; replace hK := Lib.hid (hK.out.next hb); replace c0 := hK.out.c0; replace c1 := hK.out.c1; clear hb))
  go_ret
  exact ⟨rfl, hK.out.below⟩
set_option maxRecDepth 100000 in
set_option maxHeartbeats 1000000 in
theorem distances_ok (f r : Int) (a b : Int) (w : World) (hT : TabAt w) (ha : sqB f r a = true) (hv : sqB f r b = true) : Calls Tryd.prog 6 #[.agg #[.int .i64 f, .int .i64 r], .int .i64 a, .int .i64 b] w fun e w' => e = .returned (.bool true) ∧ Below w.heap.size w w' := by
  have hTH := Lib.hid hT
  have hpos := hT.pos
  clear hT
  have hK := Lib.hid (BK.first f r w 23)
  have c0 := hK.out.c0
  have c1 := hK.out.c1
  go_enter Tryd.func6, Tryd.ntmps6
  go_wp2_with (first
    | (go_at_call 28; refine (pdist_yes _ _ _ _ _ ha hv).mono ?_; rintro e w' ⟨rfl, hb⟩; replace hK := Lib.hid (hK.out.next hb); replace c0 := hK.out.c0; replace c1 := hK.out.c1; clear hb)
    | (go_at_call 15; refine (rvalidsq _ _ _ _).mono ?_; rintro e w' ⟨rfl, hb⟩; (first | rw [ha] | rw [hv]); replace hK := Lib.hid (hK.out.next hb); replace c0 := hK.out.c0; replace c1 := hK.out.c1; clear hb)
    | (go_at_call 29; refine (rdist _ _ _ _ _ ha hv).mono ?_; rintro e w' ⟨rfl, hb⟩; replace hK := Lib.hid (hK.out.next hb); replace c0 := hK.out.c0; replace c1 := hK.out.c1; clear hb)
    | (go_at_call 16; refine (known_1 _ (hTH.out.below hpos hK.out.below)).mono ?_; rintro e w' ⟨rfl, hb⟩; replace hK := Lib.hid (hK.out.next hb); replace c0 := hK.out.c0; replace c1 := hK.out.c1; clear hb))
  go_ret
  exact ⟨rfl, hK.out.below⟩
theorem law_distances (f r a b : Int) (w : World) (hT : TabAt w) : Calls Tryd.prog 6 #[.agg #[.int .i64 f, .int .i64 r], .int .i64 a, .int .i64 b] w fun e w' => e = .returned (.bool true) ∧ Below w.heap.size w w' := by
  cases ha : sqB f r a
  · exact distances_a f r a b w hT ha
  · cases hv : sqB f r b
    · exact distances_b f r a b w hT ha hv
    · exact distances_ok f r a b w hT ha hv
end Go.Proofs.YtjjchodcoeciaaaDoor
