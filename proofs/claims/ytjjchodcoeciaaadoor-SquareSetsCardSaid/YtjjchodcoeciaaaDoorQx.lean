/- Layer 1: Shift's early ways out. -/
import Derived.Test.YtjjchodcoeciaaaDoorQv
namespace Go.Proofs.YtjjchodcoeciaaaDoor
open Go.RowKit
set_option linter.unusedSimpArgs false
set_option linter.unusedVariables false

set_option maxRecDepth 100000 in
set_option maxHeartbeats 1000000 in
theorem pshift_no (f r dx dy : Int) (m : Nat) (w : World) (hs : szB f r = false) :
    Calls Tryd.prog 30 #[.agg #[.int .i64 f, .int .i64 r], .int .u64 (m : Int), .int .i64 dx, .int .i64 dy] w fun e w' => e = .returned (.tuple #[.int .u64 0, .int .i64 2]) ∧ Below w.heap.size w w' := by
  refine (callsIn_wide (n := 5)).1 ?_
  refine callsIn_of_wp_marks Tryd.func30 rfl trivial ?_ rfl
  simp only [Tryd.ntmps30, List.size_toArray, List.length_cons, List.length_nil, Nat.reduceAdd, Nat.reduceSub, Array.replicate_succ, Array.replicate_zero, List.push_toArray, List.append_toArray, List.nil_append, List.cons_append]
  gi_wp2_with (first
    | (refine ⟨trivial, ?_⟩; gi_at_call 12; refine (callsIn_wide.2 (pvsize _ _ _)).mono ?_; rintro e w1 ⟨rfl, hb⟩; rw [hs]; have hB1 := Lib.hid (Bx3.first hb); have q0 := hB1.out.c0; have q1 := hB1.out.c1; have qx := hB1.out.cx; have qy := hB1.out.cy; have q2 := hB1.out.lt; clear hb)
    | (refine ⟨trivial, ?_⟩))
  exact ⟨_, results_tmp2 rfl _ _ _, rfl, hB1.out.below⟩
set_option maxRecDepth 100000 in
set_option maxHeartbeats 1000000 in
theorem pshift_set (f r dx dy : Int) (m : Nat) (w : World) (hs : szB f r = true) (hm : m < 18446744073709551616) (hand : m &&& (18446744073709551615 - allV f r) ≠ 0) :
    Calls Tryd.prog 30 #[.agg #[.int .i64 f, .int .i64 r], .int .u64 (m : Int), .int .i64 dx, .int .i64 dy] w fun e w' => e = .returned (.tuple #[.int .u64 0, .int .i64 2]) ∧ Below w.heap.size w w' := by
  have hz : (bits BinOp.andNot IntKind.u64 (m : Int) (allV f r : Int) != 0) = true := by
    rw [u64_andNot_nat m _ hm (allV_lt hs)]
    have : ((m &&& (18446744073709551615 - allV f r) : Nat) : Int) ≠ 0 := by exact_mod_cast hand
    simpa using this
  refine (callsIn_wide (n := 5)).1 ?_
  refine callsIn_of_wp_marks Tryd.func30 rfl trivial ?_ rfl
  simp only [Tryd.ntmps30, List.size_toArray, List.length_cons, List.length_nil, Nat.reduceAdd, Nat.reduceSub, Array.replicate_succ, Array.replicate_zero, List.push_toArray, List.append_toArray, List.nil_append, List.cons_append]
  gi_wp2_with (first
    | (refine ⟨trivial, ?_⟩; gi_at_call 12; refine (callsIn_wide.2 (pvsize _ _ _)).mono ?_; rintro e w1 ⟨rfl, hb⟩; rw [hs]; have hB1 := Lib.hid (Bx3.first hb); have q0 := hB1.out.c0; have q1 := hB1.out.c1; have qx := hB1.out.cx; have qy := hB1.out.cy; have q2 := hB1.out.lt; clear hb)
    | (refine ⟨trivial, ?_⟩; gi_at_call 39; refine (callsIn_wide.2 (pall _ _ _ hs)).mono ?_; rintro e w2 ⟨rfl, hb2⟩; have hB2 := Lib.hid (hB1.out.next hB1.out.lt hb2); have p0 := hB2.out.c0; have p1 := hB2.out.c1; have px := hB2.out.cx; have py := hB2.out.cy; have p2 := hB2.out.lt; clear hb2 q0 q1 qx qy))
  exact ⟨_, results_tmp2 rfl _ _ _, rfl, hB2.out.below⟩
set_option maxRecDepth 100000 in
set_option maxHeartbeats 1000000 in
theorem pshift_far1 (f r dx dy : Int) (m : Nat) (w : World) (hs : szB f r = true) (hm : m < 18446744073709551616) (hand : m &&& (18446744073709551615 - allV f r) = 0) (h1 : dx ≤ -f) :
    Calls Tryd.prog 30 #[.agg #[.int .i64 f, .int .i64 r], .int .u64 (m : Int), .int .i64 dx, .int .i64 dy] w fun e w' => e = .returned (.tuple #[.int .u64 0, .int .i64 0]) ∧ Below w.heap.size w w' := by
  obtain ⟨f0, f1, r0, r1⟩ := szB_out hs
  have hz : bits BinOp.andNot IntKind.u64 (m : Int) (allV f r : Int) = 0 := by
    rw [u64_andNot_nat m _ hm (allV_lt hs), hand]; rfl
  refine (callsIn_wide (n := 5)).1 ?_
  refine callsIn_of_wp_marks Tryd.func30 rfl trivial ?_ rfl
  simp only [Tryd.ntmps30, List.size_toArray, List.length_cons, List.length_nil, Nat.reduceAdd, Nat.reduceSub, Array.replicate_succ, Array.replicate_zero, List.push_toArray, List.append_toArray, List.nil_append, List.cons_append]
  gi_wp2_with (first
    | (refine ⟨trivial, ?_⟩; gi_at_call 12; refine (callsIn_wide.2 (pvsize _ _ _)).mono ?_; rintro e w1 ⟨rfl, hb⟩; rw [hs]; have hB1 := Lib.hid (Bx3.first hb); have q0 := hB1.out.c0; have q1 := hB1.out.c1; have qx := hB1.out.cx; have qy := hB1.out.cy; have q2 := hB1.out.lt; clear hb)
    | (refine ⟨trivial, ?_⟩; gi_at_call 39; refine (callsIn_wide.2 (pall _ _ _ hs)).mono ?_; rintro e w2 ⟨rfl, hb2⟩; have hB2 := Lib.hid (hB1.out.next hB1.out.lt hb2); have p0 := hB2.out.c0; have p1 := hB2.out.c1; have px := hB2.out.cx; have py := hB2.out.cy; have p2 := hB2.out.lt; clear hb2 q0 q1 qx qy))
  exact ⟨_, results_tmp2 rfl _ _ _, rfl, hB2.out.below⟩
set_option maxRecDepth 100000 in
set_option maxHeartbeats 1000000 in
theorem pshift_far2 (f r dx dy : Int) (m : Nat) (w : World) (hs : szB f r = true) (hm : m < 18446744073709551616) (hand : m &&& (18446744073709551615 - allV f r) = 0) (h1 : -f < dx) (h2 : f ≤ dx) :
    Calls Tryd.prog 30 #[.agg #[.int .i64 f, .int .i64 r], .int .u64 (m : Int), .int .i64 dx, .int .i64 dy] w fun e w' => e = .returned (.tuple #[.int .u64 0, .int .i64 0]) ∧ Below w.heap.size w w' := by
  obtain ⟨f0, f1, r0, r1⟩ := szB_out hs
  have hz : bits BinOp.andNot IntKind.u64 (m : Int) (allV f r : Int) = 0 := by
    rw [u64_andNot_nat m _ hm (allV_lt hs), hand]; rfl
  refine (callsIn_wide (n := 5)).1 ?_
  refine callsIn_of_wp_marks Tryd.func30 rfl trivial ?_ rfl
  simp only [Tryd.ntmps30, List.size_toArray, List.length_cons, List.length_nil, Nat.reduceAdd, Nat.reduceSub, Array.replicate_succ, Array.replicate_zero, List.push_toArray, List.append_toArray, List.nil_append, List.cons_append]
  gi_wp2_with (first
    | (refine ⟨trivial, ?_⟩; gi_at_call 12; refine (callsIn_wide.2 (pvsize _ _ _)).mono ?_; rintro e w1 ⟨rfl, hb⟩; rw [hs]; have hB1 := Lib.hid (Bx3.first hb); have q0 := hB1.out.c0; have q1 := hB1.out.c1; have qx := hB1.out.cx; have qy := hB1.out.cy; have q2 := hB1.out.lt; clear hb)
    | (refine ⟨trivial, ?_⟩; gi_at_call 39; refine (callsIn_wide.2 (pall _ _ _ hs)).mono ?_; rintro e w2 ⟨rfl, hb2⟩; have hB2 := Lib.hid (hB1.out.next hB1.out.lt hb2); have p0 := hB2.out.c0; have p1 := hB2.out.c1; have px := hB2.out.cx; have py := hB2.out.cy; have p2 := hB2.out.lt; clear hb2 q0 q1 qx qy))
  exact ⟨_, results_tmp2 rfl _ _ _, rfl, hB2.out.below⟩
set_option maxRecDepth 100000 in
set_option maxHeartbeats 1000000 in
theorem pshift_far3 (f r dx dy : Int) (m : Nat) (w : World) (hs : szB f r = true) (hm : m < 18446744073709551616) (hand : m &&& (18446744073709551615 - allV f r) = 0) (h1 : -f < dx) (h2 : dx < f) (h3 : dy ≤ -r) :
    Calls Tryd.prog 30 #[.agg #[.int .i64 f, .int .i64 r], .int .u64 (m : Int), .int .i64 dx, .int .i64 dy] w fun e w' => e = .returned (.tuple #[.int .u64 0, .int .i64 0]) ∧ Below w.heap.size w w' := by
  obtain ⟨f0, f1, r0, r1⟩ := szB_out hs
  have hz : bits BinOp.andNot IntKind.u64 (m : Int) (allV f r : Int) = 0 := by
    rw [u64_andNot_nat m _ hm (allV_lt hs), hand]; rfl
  refine (callsIn_wide (n := 5)).1 ?_
  refine callsIn_of_wp_marks Tryd.func30 rfl trivial ?_ rfl
  simp only [Tryd.ntmps30, List.size_toArray, List.length_cons, List.length_nil, Nat.reduceAdd, Nat.reduceSub, Array.replicate_succ, Array.replicate_zero, List.push_toArray, List.append_toArray, List.nil_append, List.cons_append]
  gi_wp2_with (first
    | (refine ⟨trivial, ?_⟩; gi_at_call 12; refine (callsIn_wide.2 (pvsize _ _ _)).mono ?_; rintro e w1 ⟨rfl, hb⟩; rw [hs]; have hB1 := Lib.hid (Bx3.first hb); have q0 := hB1.out.c0; have q1 := hB1.out.c1; have qx := hB1.out.cx; have qy := hB1.out.cy; have q2 := hB1.out.lt; clear hb)
    | (refine ⟨trivial, ?_⟩; gi_at_call 39; refine (callsIn_wide.2 (pall _ _ _ hs)).mono ?_; rintro e w2 ⟨rfl, hb2⟩; have hB2 := Lib.hid (hB1.out.next hB1.out.lt hb2); have p0 := hB2.out.c0; have p1 := hB2.out.c1; have px := hB2.out.cx; have py := hB2.out.cy; have p2 := hB2.out.lt; clear hb2 q0 q1 qx qy))
  exact ⟨_, results_tmp2 rfl _ _ _, rfl, hB2.out.below⟩
set_option maxRecDepth 100000 in
set_option maxHeartbeats 1000000 in
theorem pshift_far4 (f r dx dy : Int) (m : Nat) (w : World) (hs : szB f r = true) (hm : m < 18446744073709551616) (hand : m &&& (18446744073709551615 - allV f r) = 0) (h1 : -f < dx) (h2 : dx < f) (h3 : -r < dy) (h4 : r ≤ dy) :
    Calls Tryd.prog 30 #[.agg #[.int .i64 f, .int .i64 r], .int .u64 (m : Int), .int .i64 dx, .int .i64 dy] w fun e w' => e = .returned (.tuple #[.int .u64 0, .int .i64 0]) ∧ Below w.heap.size w w' := by
  obtain ⟨f0, f1, r0, r1⟩ := szB_out hs
  have hz : bits BinOp.andNot IntKind.u64 (m : Int) (allV f r : Int) = 0 := by
    rw [u64_andNot_nat m _ hm (allV_lt hs), hand]; rfl
  refine (callsIn_wide (n := 5)).1 ?_
  refine callsIn_of_wp_marks Tryd.func30 rfl trivial ?_ rfl
  simp only [Tryd.ntmps30, List.size_toArray, List.length_cons, List.length_nil, Nat.reduceAdd, Nat.reduceSub, Array.replicate_succ, Array.replicate_zero, List.push_toArray, List.append_toArray, List.nil_append, List.cons_append]
  gi_wp2_with (first
    | (refine ⟨trivial, ?_⟩; gi_at_call 12; refine (callsIn_wide.2 (pvsize _ _ _)).mono ?_; rintro e w1 ⟨rfl, hb⟩; rw [hs]; have hB1 := Lib.hid (Bx3.first hb); have q0 := hB1.out.c0; have q1 := hB1.out.c1; have qx := hB1.out.cx; have qy := hB1.out.cy; have q2 := hB1.out.lt; clear hb)
    | (refine ⟨trivial, ?_⟩; gi_at_call 39; refine (callsIn_wide.2 (pall _ _ _ hs)).mono ?_; rintro e w2 ⟨rfl, hb2⟩; have hB2 := Lib.hid (hB1.out.next hB1.out.lt hb2); have p0 := hB2.out.c0; have p1 := hB2.out.c1; have px := hB2.out.cx; have py := hB2.out.cy; have p2 := hB2.out.lt; clear hb2 q0 q1 qx qy))
  exact ⟨_, results_tmp2 rfl _ _ _, rfl, hB2.out.below⟩
theorem pshift_far (f r dx dy : Int) (m : Nat) (w : World) (hs : szB f r = true) (hm : m < 18446744073709551616) (hand : m &&& (18446744073709551615 - allV f r) = 0) (h : ¬ ((-f < dx ∧ dx < f) ∧ -r < dy ∧ dy < r)) :
    Calls Tryd.prog 30 #[.agg #[.int .i64 f, .int .i64 r], .int .u64 (m : Int), .int .i64 dx, .int .i64 dy] w fun e w' => e = .returned (.tuple #[.int .u64 0, .int .i64 0]) ∧ Below w.heap.size w w' := by
  rcases (by omega : dx ≤ -f ∨ (-f < dx ∧ f ≤ dx) ∨ ((-f < dx ∧ dx < f) ∧ dy ≤ -r) ∨ ((-f < dx ∧ dx < f) ∧ -r < dy ∧ r ≤ dy)) with h | ⟨h, k⟩ | ⟨⟨h, k⟩, l⟩ | ⟨⟨h, k⟩, l, n⟩
  · exact pshift_far1 f r dx dy m w hs hm hand h
  · exact pshift_far2 f r dx dy m w hs hm hand h k
  · exact pshift_far3 f r dx dy m w hs hm hand h k l
  · exact pshift_far4 f r dx dy m w hs hm hand h k l n
end Go.Proofs.YtjjchodcoeciaaaDoor
