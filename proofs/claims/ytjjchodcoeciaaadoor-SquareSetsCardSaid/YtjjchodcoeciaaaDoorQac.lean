/- Layer 1: the theorem of stage 1: its early ways out. -/
import Derived.Test.YtjjchodcoeciaaaDoorQab
namespace Go.Proofs.YtjjchodcoeciaaaDoor
open Go.RowKit
set_option linter.unusedSimpArgs false
set_option linter.unusedVariables false

/-- the four boxes lie in W as they lay -/
structure HK (f r dx dy : Int) (w W : World) : Prop where
  c0 : W.cell? ⟨w.heap.size, 0, none⟩ = some (.int .i64 f)
  c1 : W.cell? ⟨w.heap.size, 1, none⟩ = some (.int .i64 r)
  cx : W.cell? ⟨w.heap.size + 1, 0, none⟩ = some (.int .i64 dx)
  cy : W.cell? ⟨w.heap.size + 1 + 1, 0, none⟩ = some (.int .i64 dy)
  cr : W.cell? ⟨w.heap.size + 1 + 1 + 1, 0, none⟩ = some (.bool false)
  fr : W.frozen? ⟨w.heap.size + 1 + 1 + 1, 0, none⟩ = false
  lt : w.heap.size + 1 + 1 + 1 < W.heap.size
  below : Below w.heap.size w W
theorem HK.next {f r dx dy : Int} {w W W' : World} (h : HK f r dx dy w W) (hb : Below W.heap.size W W') : HK f r dx dy w W' := by
  have hlt := h.lt
  exact ⟨(hb.cell (p := ⟨w.heap.size, 0, none⟩) (by show w.heap.size < _; omega)).trans h.c0, (hb.cell (p := ⟨w.heap.size, 1, none⟩) (by show w.heap.size < _; omega)).trans h.c1, (hb.cell (p := ⟨w.heap.size + 1, 0, none⟩) (by show w.heap.size + 1 < _; omega)).trans h.cx, (hb.cell (p := ⟨w.heap.size + 1 + 1, 0, none⟩) (by show w.heap.size + 1 + 1 < _; omega)).trans h.cy, (hb.cell (p := ⟨w.heap.size + 1 + 1 + 1, 0, none⟩) hlt).trans h.cr, (hb.frozen (p := ⟨w.heap.size + 1 + 1 + 1, 0, none⟩) hlt).trans h.fr, Nat.lt_of_lt_of_le hlt hb.size, h.below.trans (hb.mono h.below.size)⟩

theorem HK.first (f r dx dy : Int) (w : World) (t t2 t3 t4 : TypeId) : HK f r dx dy w ((((w.alloc (.cells #[.int .i64 f, .int .i64 r] t)).alloc (.cells #[.int .i64 dx] t2)).alloc (.cells #[.int .i64 dy] t3)).alloc (.cells #[.bool false] t4)) := by
  have z1 : (w.alloc (.cells #[.int .i64 f, .int .i64 r] t)).heap.size = w.heap.size + 1 := World.size_alloc _ _
  have z2 : ((w.alloc (.cells #[.int .i64 f, .int .i64 r] t)).alloc (.cells #[.int .i64 dx] t2)).heap.size = w.heap.size + 1 + 1 := by rw [World.size_alloc, z1]
  have z3 : (((w.alloc (.cells #[.int .i64 f, .int .i64 r] t)).alloc (.cells #[.int .i64 dx] t2)).alloc (.cells #[.int .i64 dy] t3)).heap.size = w.heap.size + 1 + 1 + 1 := by rw [World.size_alloc, z2]
  have h1 := heap_alloc_new w (.cells #[.int .i64 f, .int .i64 r] t)
  have h2 := heap_alloc_new (w.alloc (.cells #[.int .i64 f, .int .i64 r] t)) (.cells #[.int .i64 dx] t2)
  have h3 := heap_alloc_new ((w.alloc (.cells #[.int .i64 f, .int .i64 r] t)).alloc (.cells #[.int .i64 dx] t2)) (.cells #[.int .i64 dy] t3)
  have h4 := heap_alloc_new (((w.alloc (.cells #[.int .i64 f, .int .i64 r] t)).alloc (.cells #[.int .i64 dx] t2)).alloc (.cells #[.int .i64 dy] t3)) (.cells #[.bool false] t4)
  rw [z1] at h2
  rw [z2] at h3
  rw [z3] at h4
  refine ⟨?_, ?_, ?_, ?_, ?_, ?_, by rw [World.size_alloc, z3]; omega, ((((Below.refl _ _).alloc (Nat.le_refl _) _).alloc (by omega) _).alloc (by omega) _).alloc (by omega) _⟩
  · rw [World.cell?_alloc_lt _ _ ⟨w.heap.size, 0, none⟩ (by show w.heap.size < _; omega), World.cell?_alloc_lt _ _ ⟨w.heap.size, 0, none⟩ (by show w.heap.size < _; omega), World.cell?_alloc_lt _ _ ⟨w.heap.size, 0, none⟩ (by show w.heap.size < _; omega), cell_of_row _ _ _ _ _ _ h1]; rfl
  · rw [World.cell?_alloc_lt _ _ ⟨w.heap.size, 1, none⟩ (by show w.heap.size < _; omega), World.cell?_alloc_lt _ _ ⟨w.heap.size, 1, none⟩ (by show w.heap.size < _; omega), World.cell?_alloc_lt _ _ ⟨w.heap.size, 1, none⟩ (by show w.heap.size < _; omega), cell_of_row _ _ _ _ _ _ h1]; rfl
  · rw [World.cell?_alloc_lt _ _ ⟨w.heap.size + 1, 0, none⟩ (by show w.heap.size + 1 < _; omega), World.cell?_alloc_lt _ _ ⟨w.heap.size + 1, 0, none⟩ (by show w.heap.size + 1 < _; omega), cell_of_row _ _ _ _ _ _ h2]; rfl
  · rw [World.cell?_alloc_lt _ _ ⟨w.heap.size + 1 + 1, 0, none⟩ (by show w.heap.size + 1 + 1 < _; omega), cell_of_row _ _ _ _ _ _ h3]; rfl
  · rw [cell_of_row _ _ _ _ _ _ h4]; rfl
  · simp only [World.frozen?]
    rw [h4]
    rfl

set_option maxRecDepth 100000 in
set_option maxHeartbeats 1000000 in
theorem holds_a (f r a b c dx dy : Int) (m : Nat) (w : World) (hT : TabAt w) (ha : sqB f r a = false) :
    Calls Tryd.prog 8 #[.agg #[.int .i64 f, .int .i64 r], .int .i64 a, .int .i64 b, .int .i64 c, .int .u64 (m : Int), .int .i64 dx, .int .i64 dy] w fun e w' => e = .returned (.bool true) ∧ Below w.heap.size w w' := by
  have hTH := Lib.hid hT
  have hpos := hT.pos
  clear hT
  have hK := Lib.hid (HK.first f r dx dy w 23 3 3 4)
  have c0 := hK.out.c0
  have c1 := hK.out.c1
  have cx := hK.out.cx
  have cy := hK.out.cy
  have cr := hK.out.cr
  have fr := hK.out.fr
  refine (callsIn_wide (n := 5)).1 ?_
  refine callsIn_of_wp_marks Tryd.func8 rfl trivial ?_ rfl
  simp only [Tryd.ntmps8, List.size_toArray, List.length_cons, List.length_nil, Nat.reduceAdd, Nat.reduceSub, Array.replicate_succ, Array.replicate_zero, List.push_toArray, List.append_toArray, List.nil_append, List.cons_append]
  gi_wp2_with (first
    | (refine ⟨trivial, ?_⟩; gi_at_call 15; refine (callsIn_wide.2 (rvalidsq _ _ _ _)).mono ?_; rintro e w' ⟨rfl, hb⟩; (first | rw [ha]); replace hK := Lib.hid (hK.out.next hb); replace c0 := hK.out.c0; replace c1 := hK.out.c1; replace cx := hK.out.cx; replace cy := hK.out.cy; replace cr := hK.out.cr; replace fr := hK.out.fr; clear hb)
    | (refine ⟨trivial, ?_⟩; gi_at_call 16; refine (callsIn_wide.2 (known_1 _ (hTH.out.below hpos hK.out.below))).mono ?_; rintro e w' ⟨rfl, hb⟩; replace hK := Lib.hid (hK.out.next hb); replace c0 := hK.out.c0; replace c1 := hK.out.c1; replace cx := hK.out.cx; replace cy := hK.out.cy; replace cr := hK.out.cr; replace fr := hK.out.fr; clear hb)
    | (refine ⟨trivial, ?_⟩))
  exact ⟨_, by simp [results, Tryd.results8, go_sem, World.cell?_setCell_same', cr], rfl, hK.out.below.setCell (p := ⟨w.heap.size + 1 + 1 + 1, 0, none⟩) (by dsimp only; omega) _⟩
set_option maxRecDepth 100000 in
set_option maxHeartbeats 1000000 in
theorem holds_b (f r a b c dx dy : Int) (m : Nat) (w : World) (hT : TabAt w) (ha : sqB f r a = true) (hb' : sqB f r b = false) :
    Calls Tryd.prog 8 #[.agg #[.int .i64 f, .int .i64 r], .int .i64 a, .int .i64 b, .int .i64 c, .int .u64 (m : Int), .int .i64 dx, .int .i64 dy] w fun e w' => e = .returned (.bool true) ∧ Below w.heap.size w w' := by
  have hTH := Lib.hid hT
  have hpos := hT.pos
  clear hT
  have hK := Lib.hid (HK.first f r dx dy w 23 3 3 4)
  have c0 := hK.out.c0
  have c1 := hK.out.c1
  have cx := hK.out.cx
  have cy := hK.out.cy
  have cr := hK.out.cr
  have fr := hK.out.fr
  refine (callsIn_wide (n := 5)).1 ?_
  refine callsIn_of_wp_marks Tryd.func8 rfl trivial ?_ rfl
  simp only [Tryd.ntmps8, List.size_toArray, List.length_cons, List.length_nil, Nat.reduceAdd, Nat.reduceSub, Array.replicate_succ, Array.replicate_zero, List.push_toArray, List.append_toArray, List.nil_append, List.cons_append]
  gi_wp2_with (first
    | (refine ⟨trivial, ?_⟩; gi_at_call 15; refine (callsIn_wide.2 (rvalidsq _ _ _ _)).mono ?_; rintro e w' ⟨rfl, hb⟩; (first | rw [ha] | rw [hb']); replace hK := Lib.hid (hK.out.next hb); replace c0 := hK.out.c0; replace c1 := hK.out.c1; replace cx := hK.out.cx; replace cy := hK.out.cy; replace cr := hK.out.cr; replace fr := hK.out.fr; clear hb)
    | (refine ⟨trivial, ?_⟩; gi_at_call 16; refine (callsIn_wide.2 (known_1 _ (hTH.out.below hpos hK.out.below))).mono ?_; rintro e w' ⟨rfl, hb⟩; replace hK := Lib.hid (hK.out.next hb); replace c0 := hK.out.c0; replace c1 := hK.out.c1; replace cx := hK.out.cx; replace cy := hK.out.cy; replace cr := hK.out.cr; replace fr := hK.out.fr; clear hb)
    | (refine ⟨trivial, ?_⟩))
  exact ⟨_, by simp [results, Tryd.results8, go_sem, World.cell?_setCell_same', cr], rfl, hK.out.below.setCell (p := ⟨w.heap.size + 1 + 1 + 1, 0, none⟩) (by dsimp only; omega) _⟩
set_option maxRecDepth 100000 in
set_option maxHeartbeats 1000000 in
theorem holds_c (f r a b c dx dy : Int) (m : Nat) (w : World) (hT : TabAt w) (ha : sqB f r a = true) (hb' : sqB f r b = true) (hc' : sqB f r c = false) :
    Calls Tryd.prog 8 #[.agg #[.int .i64 f, .int .i64 r], .int .i64 a, .int .i64 b, .int .i64 c, .int .u64 (m : Int), .int .i64 dx, .int .i64 dy] w fun e w' => e = .returned (.bool true) ∧ Below w.heap.size w w' := by
  have hTH := Lib.hid hT
  have hpos := hT.pos
  clear hT
  have hK := Lib.hid (HK.first f r dx dy w 23 3 3 4)
  have c0 := hK.out.c0
  have c1 := hK.out.c1
  have cx := hK.out.cx
  have cy := hK.out.cy
  have cr := hK.out.cr
  have fr := hK.out.fr
  refine (callsIn_wide (n := 5)).1 ?_
  refine callsIn_of_wp_marks Tryd.func8 rfl trivial ?_ rfl
  simp only [Tryd.ntmps8, List.size_toArray, List.length_cons, List.length_nil, Nat.reduceAdd, Nat.reduceSub, Array.replicate_succ, Array.replicate_zero, List.push_toArray, List.append_toArray, List.nil_append, List.cons_append]
  gi_wp2_with (first
    | (refine ⟨trivial, ?_⟩; gi_at_call 15; refine (callsIn_wide.2 (rvalidsq _ _ _ _)).mono ?_; rintro e w' ⟨rfl, hb⟩; (first | rw [ha] | rw [hb'] | rw [hc']); replace hK := Lib.hid (hK.out.next hb); replace c0 := hK.out.c0; replace c1 := hK.out.c1; replace cx := hK.out.cx; replace cy := hK.out.cy; replace cr := hK.out.cr; replace fr := hK.out.fr; clear hb)
    | (refine ⟨trivial, ?_⟩; gi_at_call 16; refine (callsIn_wide.2 (known_1 _ (hTH.out.below hpos hK.out.below))).mono ?_; rintro e w' ⟨rfl, hb⟩; replace hK := Lib.hid (hK.out.next hb); replace c0 := hK.out.c0; replace c1 := hK.out.c1; replace cx := hK.out.cx; replace cy := hK.out.cy; replace cr := hK.out.cr; replace fr := hK.out.fr; clear hb)
    | (refine ⟨trivial, ?_⟩))
  exact ⟨_, by simp [results, Tryd.results8, go_sem, World.cell?_setCell_same', cr], rfl, hK.out.below.setCell (p := ⟨w.heap.size + 1 + 1 + 1, 0, none⟩) (by dsimp only; omega) _⟩
set_option maxRecDepth 100000 in
set_option maxHeartbeats 1000000 in
theorem holds_off (f r a b c dx dy : Int) (m : Nat) (w : World) (hT : TabAt w) (ha : sqB f r a = true) (hb' : sqB f r b = true) (hc' : sqB f r c = true) (hs : szB f r = true) (hoff : ¬ ∀ x ∈ LI m 64, x < f * r) :
    Calls Tryd.prog 8 #[.agg #[.int .i64 f, .int .i64 r], .int .i64 a, .int .i64 b, .int .i64 c, .int .u64 (m : Int), .int .i64 dx, .int .i64 dy] w fun e w' => e = .returned (.bool true) ∧ Below w.heap.size w w' := by
  have hTH := Lib.hid hT
  have hpos := hT.pos
  clear hT
  have hK := Lib.hid (HK.first f r dx dy w 23 3 3 4)
  have c0 := hK.out.c0
  have c1 := hK.out.c1
  have cx := hK.out.cx
  have cy := hK.out.cy
  have cr := hK.out.cr
  have fr := hK.out.fr
  refine (callsIn_wide (n := 5)).1 ?_
  refine callsIn_of_wp_marks Tryd.func8 rfl trivial ?_ rfl
  simp only [Tryd.ntmps8, List.size_toArray, List.length_cons, List.length_nil, Nat.reduceAdd, Nat.reduceSub, Array.replicate_succ, Array.replicate_zero, List.push_toArray, List.append_toArray, List.nil_append, List.cons_append]
  gi_wp2_with (first
    | (refine ⟨trivial, ?_⟩; gi_at_call 15; refine (callsIn_wide.2 (rvalidsq _ _ _ _)).mono ?_; rintro e w' ⟨rfl, hb⟩; (first | rw [ha] | rw [hb'] | rw [hc']); replace hK := Lib.hid (hK.out.next hb); replace c0 := hK.out.c0; replace c1 := hK.out.c1; replace cx := hK.out.cx; replace cy := hK.out.cy; replace cr := hK.out.cr; replace fr := hK.out.fr; clear hb)
    | (refine ⟨trivial, ?_⟩; gi_at_call 31; refine (callsIn_wide.2 (ron_off _ _ _ _ hs hoff)).mono ?_; rintro e w' ⟨rfl, hb⟩; replace hK := Lib.hid (hK.out.next hb); replace c0 := hK.out.c0; replace c1 := hK.out.c1; replace cx := hK.out.cx; replace cy := hK.out.cy; replace cr := hK.out.cr; replace fr := hK.out.fr; clear hb)
    | (refine ⟨trivial, ?_⟩; gi_at_call 16; refine (callsIn_wide.2 (known_1 _ (hTH.out.below hpos hK.out.below))).mono ?_; rintro e w' ⟨rfl, hb⟩; replace hK := Lib.hid (hK.out.next hb); replace c0 := hK.out.c0; replace c1 := hK.out.c1; replace cx := hK.out.cx; replace cy := hK.out.cy; replace cr := hK.out.cr; replace fr := hK.out.fr; clear hb)
    | (refine ⟨trivial, ?_⟩))
  exact ⟨_, by simp [results, Tryd.results8, go_sem, World.cell?_setCell_same', cr], rfl, hK.out.below.setCell (p := ⟨w.heap.size + 1 + 1 + 1, 0, none⟩) (by dsimp only; omega) _⟩
set_option maxRecDepth 100000 in
set_option maxHeartbeats 1000000 in
theorem holds_x1 (f r a b c dx dy : Int) (m : Nat) (w : World) (hT : TabAt w) (ha : sqB f r a = true) (hb' : sqB f r b = true) (hc' : sqB f r c = true) (hs : szB f r = true) (hon : Hid (∀ x ∈ LI m 64, x < f * r)) (h1 : dx < -8) :
    Calls Tryd.prog 8 #[.agg #[.int .i64 f, .int .i64 r], .int .i64 a, .int .i64 b, .int .i64 c, .int .u64 (m : Int), .int .i64 dx, .int .i64 dy] w fun e w' => e = .returned (.bool true) ∧ Below w.heap.size w w' := by
  have hTH := Lib.hid hT
  have hpos := hT.pos
  clear hT
  have hK := Lib.hid (HK.first f r dx dy w 23 3 3 4)
  have c0 := hK.out.c0
  have c1 := hK.out.c1
  have cx := hK.out.cx
  have cy := hK.out.cy
  have cr := hK.out.cr
  have fr := hK.out.fr
  refine (callsIn_wide (n := 5)).1 ?_
  refine callsIn_of_wp_marks Tryd.func8 rfl trivial ?_ rfl
  simp only [Tryd.ntmps8, List.size_toArray, List.length_cons, List.length_nil, Nat.reduceAdd, Nat.reduceSub, Array.replicate_succ, Array.replicate_zero, List.push_toArray, List.append_toArray, List.nil_append, List.cons_append]
  gi_wp2_with (first
    | (refine ⟨trivial, ?_⟩; gi_at_call 15; refine (callsIn_wide.2 (rvalidsq _ _ _ _)).mono ?_; rintro e w' ⟨rfl, hb⟩; (first | rw [ha] | rw [hb'] | rw [hc']); replace hK := Lib.hid (hK.out.next hb); replace c0 := hK.out.c0; replace c1 := hK.out.c1; replace cx := hK.out.cx; replace cy := hK.out.cy; replace cr := hK.out.cr; replace fr := hK.out.fr; clear hb)
    | (refine ⟨trivial, ?_⟩; gi_at_call 31; refine (callsIn_wide.2 (ron_on _ _ _ _ hs hon.out)).mono ?_; rintro e w' ⟨rfl, hb⟩; replace hK := Lib.hid (hK.out.next hb); replace c0 := hK.out.c0; replace c1 := hK.out.c1; replace cx := hK.out.cx; replace cy := hK.out.cy; replace cr := hK.out.cr; replace fr := hK.out.fr; clear hb)
    | (refine ⟨trivial, ?_⟩; gi_at_call 16; refine (callsIn_wide.2 (known_1 _ (hTH.out.below hpos hK.out.below))).mono ?_; rintro e w' ⟨rfl, hb⟩; replace hK := Lib.hid (hK.out.next hb); replace c0 := hK.out.c0; replace c1 := hK.out.c1; replace cx := hK.out.cx; replace cy := hK.out.cy; replace cr := hK.out.cr; replace fr := hK.out.fr; clear hb)
    | (refine ⟨trivial, ?_⟩))
  exact ⟨_, by simp [results, Tryd.results8, go_sem, World.cell?_setCell_same', cr], rfl, hK.out.below.setCell (p := ⟨w.heap.size + 1 + 1 + 1, 0, none⟩) (by dsimp only; omega) _⟩
set_option maxRecDepth 100000 in
set_option maxHeartbeats 1000000 in
theorem holds_x2 (f r a b c dx dy : Int) (m : Nat) (w : World) (hT : TabAt w) (ha : sqB f r a = true) (hb' : sqB f r b = true) (hc' : sqB f r c = true) (hs : szB f r = true) (hon : Hid (∀ x ∈ LI m 64, x < f * r)) (h1 : -8 ≤ dx) (h2 : 8 < dx) :
    Calls Tryd.prog 8 #[.agg #[.int .i64 f, .int .i64 r], .int .i64 a, .int .i64 b, .int .i64 c, .int .u64 (m : Int), .int .i64 dx, .int .i64 dy] w fun e w' => e = .returned (.bool true) ∧ Below w.heap.size w w' := by
  have hTH := Lib.hid hT
  have hpos := hT.pos
  clear hT
  have hK := Lib.hid (HK.first f r dx dy w 23 3 3 4)
  have c0 := hK.out.c0
  have c1 := hK.out.c1
  have cx := hK.out.cx
  have cy := hK.out.cy
  have cr := hK.out.cr
  have fr := hK.out.fr
  refine (callsIn_wide (n := 5)).1 ?_
  refine callsIn_of_wp_marks Tryd.func8 rfl trivial ?_ rfl
  simp only [Tryd.ntmps8, List.size_toArray, List.length_cons, List.length_nil, Nat.reduceAdd, Nat.reduceSub, Array.replicate_succ, Array.replicate_zero, List.push_toArray, List.append_toArray, List.nil_append, List.cons_append]
  gi_wp2_with (first
    | (refine ⟨trivial, ?_⟩; gi_at_call 15; refine (callsIn_wide.2 (rvalidsq _ _ _ _)).mono ?_; rintro e w' ⟨rfl, hb⟩; (first | rw [ha] | rw [hb'] | rw [hc']); replace hK := Lib.hid (hK.out.next hb); replace c0 := hK.out.c0; replace c1 := hK.out.c1; replace cx := hK.out.cx; replace cy := hK.out.cy; replace cr := hK.out.cr; replace fr := hK.out.fr; clear hb)
    | (refine ⟨trivial, ?_⟩; gi_at_call 31; refine (callsIn_wide.2 (ron_on _ _ _ _ hs hon.out)).mono ?_; rintro e w' ⟨rfl, hb⟩; replace hK := Lib.hid (hK.out.next hb); replace c0 := hK.out.c0; replace c1 := hK.out.c1; replace cx := hK.out.cx; replace cy := hK.out.cy; replace cr := hK.out.cr; replace fr := hK.out.fr; clear hb)
    | (refine ⟨trivial, ?_⟩; gi_at_call 16; refine (callsIn_wide.2 (known_1 _ (hTH.out.below hpos hK.out.below))).mono ?_; rintro e w' ⟨rfl, hb⟩; replace hK := Lib.hid (hK.out.next hb); replace c0 := hK.out.c0; replace c1 := hK.out.c1; replace cx := hK.out.cx; replace cy := hK.out.cy; replace cr := hK.out.cr; replace fr := hK.out.fr; clear hb)
    | (refine ⟨trivial, ?_⟩))
  exact ⟨_, by simp [results, Tryd.results8, go_sem, World.cell?_setCell_same', cr], rfl, hK.out.below.setCell (p := ⟨w.heap.size + 1 + 1 + 1, 0, none⟩) (by dsimp only; omega) _⟩
set_option maxRecDepth 100000 in
set_option maxHeartbeats 1000000 in
theorem holds_y1 (f r a b c dx dy : Int) (m : Nat) (w : World) (hT : TabAt w) (ha : sqB f r a = true) (hb' : sqB f r b = true) (hc' : sqB f r c = true) (hs : szB f r = true) (hon : Hid (∀ x ∈ LI m 64, x < f * r)) (h1 : -8 ≤ dx) (h2 : dx ≤ 8) (h3 : dy < -8) :
    Calls Tryd.prog 8 #[.agg #[.int .i64 f, .int .i64 r], .int .i64 a, .int .i64 b, .int .i64 c, .int .u64 (m : Int), .int .i64 dx, .int .i64 dy] w fun e w' => e = .returned (.bool true) ∧ Below w.heap.size w w' := by
  have hTH := Lib.hid hT
  have hpos := hT.pos
  clear hT
  have hK := Lib.hid (HK.first f r dx dy w 23 3 3 4)
  have c0 := hK.out.c0
  have c1 := hK.out.c1
  have cx := hK.out.cx
  have cy := hK.out.cy
  have cr := hK.out.cr
  have fr := hK.out.fr
  refine (callsIn_wide (n := 5)).1 ?_
  refine callsIn_of_wp_marks Tryd.func8 rfl trivial ?_ rfl
  simp only [Tryd.ntmps8, List.size_toArray, List.length_cons, List.length_nil, Nat.reduceAdd, Nat.reduceSub, Array.replicate_succ, Array.replicate_zero, List.push_toArray, List.append_toArray, List.nil_append, List.cons_append]
  gi_wp2_with (first
    | (refine ⟨trivial, ?_⟩; gi_at_call 15; refine (callsIn_wide.2 (rvalidsq _ _ _ _)).mono ?_; rintro e w' ⟨rfl, hb⟩; (first | rw [ha] | rw [hb'] | rw [hc']); replace hK := Lib.hid (hK.out.next hb); replace c0 := hK.out.c0; replace c1 := hK.out.c1; replace cx := hK.out.cx; replace cy := hK.out.cy; replace cr := hK.out.cr; replace fr := hK.out.fr; clear hb)
    | (refine ⟨trivial, ?_⟩; gi_at_call 31; refine (callsIn_wide.2 (ron_on _ _ _ _ hs hon.out)).mono ?_; rintro e w' ⟨rfl, hb⟩; replace hK := Lib.hid (hK.out.next hb); replace c0 := hK.out.c0; replace c1 := hK.out.c1; replace cx := hK.out.cx; replace cy := hK.out.cy; replace cr := hK.out.cr; replace fr := hK.out.fr; clear hb)
    | (refine ⟨trivial, ?_⟩; gi_at_call 16; refine (callsIn_wide.2 (known_1 _ (hTH.out.below hpos hK.out.below))).mono ?_; rintro e w' ⟨rfl, hb⟩; replace hK := Lib.hid (hK.out.next hb); replace c0 := hK.out.c0; replace c1 := hK.out.c1; replace cx := hK.out.cx; replace cy := hK.out.cy; replace cr := hK.out.cr; replace fr := hK.out.fr; clear hb)
    | (refine ⟨trivial, ?_⟩))
  exact ⟨_, by simp [results, Tryd.results8, go_sem, World.cell?_setCell_same', cr], rfl, hK.out.below.setCell (p := ⟨w.heap.size + 1 + 1 + 1, 0, none⟩) (by dsimp only; omega) _⟩
set_option maxRecDepth 100000 in
set_option maxHeartbeats 1000000 in
theorem holds_y2 (f r a b c dx dy : Int) (m : Nat) (w : World) (hT : TabAt w) (ha : sqB f r a = true) (hb' : sqB f r b = true) (hc' : sqB f r c = true) (hs : szB f r = true) (hon : Hid (∀ x ∈ LI m 64, x < f * r)) (h1 : -8 ≤ dx) (h2 : dx ≤ 8) (h3 : -8 ≤ dy) (h4 : 8 < dy) :
    Calls Tryd.prog 8 #[.agg #[.int .i64 f, .int .i64 r], .int .i64 a, .int .i64 b, .int .i64 c, .int .u64 (m : Int), .int .i64 dx, .int .i64 dy] w fun e w' => e = .returned (.bool true) ∧ Below w.heap.size w w' := by
  have hTH := Lib.hid hT
  have hpos := hT.pos
  clear hT
  have hK := Lib.hid (HK.first f r dx dy w 23 3 3 4)
  have c0 := hK.out.c0
  have c1 := hK.out.c1
  have cx := hK.out.cx
  have cy := hK.out.cy
  have cr := hK.out.cr
  have fr := hK.out.fr
  refine (callsIn_wide (n := 5)).1 ?_
  refine callsIn_of_wp_marks Tryd.func8 rfl trivial ?_ rfl
  simp only [Tryd.ntmps8, List.size_toArray, List.length_cons, List.length_nil, Nat.reduceAdd, Nat.reduceSub, Array.replicate_succ, Array.replicate_zero, List.push_toArray, List.append_toArray, List.nil_append, List.cons_append]
  gi_wp2_with (first
    | (refine ⟨trivial, ?_⟩; gi_at_call 15; refine (callsIn_wide.2 (rvalidsq _ _ _ _)).mono ?_; rintro e w' ⟨rfl, hb⟩; (first | rw [ha] | rw [hb'] | rw [hc']); replace hK := Lib.hid (hK.out.next hb); replace c0 := hK.out.c0; replace c1 := hK.out.c1; replace cx := hK.out.cx; replace cy := hK.out.cy; replace cr := hK.out.cr; replace fr := hK.out.fr; clear hb)
    | (refine ⟨trivial, ?_⟩; gi_at_call 31; refine (callsIn_wide.2 (ron_on _ _ _ _ hs hon.out)).mono ?_; rintro e w' ⟨rfl, hb⟩; replace hK := Lib.hid (hK.out.next hb); replace c0 := hK.out.c0; replace c1 := hK.out.c1; replace cx := hK.out.cx; replace cy := hK.out.cy; replace cr := hK.out.cr; replace fr := hK.out.fr; clear hb)
    | (refine ⟨trivial, ?_⟩; gi_at_call 16; refine (callsIn_wide.2 (known_1 _ (hTH.out.below hpos hK.out.below))).mono ?_; rintro e w' ⟨rfl, hb⟩; replace hK := Lib.hid (hK.out.next hb); replace c0 := hK.out.c0; replace c1 := hK.out.c1; replace cx := hK.out.cx; replace cy := hK.out.cy; replace cr := hK.out.cr; replace fr := hK.out.fr; clear hb)
    | (refine ⟨trivial, ?_⟩))
  exact ⟨_, by simp [results, Tryd.results8, go_sem, World.cell?_setCell_same', cr], rfl, hK.out.below.setCell (p := ⟨w.heap.size + 1 + 1 + 1, 0, none⟩) (by dsimp only; omega) _⟩
end Go.Proofs.YtjjchodcoeciaaaDoor
