/- Layer 1: places, names, colours, distances of the program. -/
import Derived.Test.YtjjchodcoeciaaaDoorQa
namespace Go.Proofs.YtjjchodcoeciaaaDoor
open Go.RowKit
set_option linter.unusedSimpArgs false
set_option linter.unusedVariables false

theorem place_bd {f r a : Int} (h : sqB f r a = true) : 0 ≤ a % f ∧ a % f < f ∧ 0 ≤ a / f ∧ a / f < r ∧ a % f + a / f * f = a := by
  obtain ⟨hs, h0, h1⟩ := sqB_out h
  obtain ⟨f0, f1, r0, r1⟩ := szB_out hs
  have e1 : 0 ≤ a % f := Int.emod_nonneg _ (by omega)
  have e2 : a % f < f := Int.emod_lt_of_pos _ (by omega)
  have e3 : 0 ≤ a / f := Int.ediv_nonneg h0 (by omega)
  have e4 : a / f < r := Int.ediv_lt_of_lt_mul (by omega) (by rw [Int.mul_comm]; exact h1)
  have e5 : a % f + a / f * f = a := by rw [Int.mul_comm]; exact Int.emod_add_mul_ediv a f
  exact ⟨e1, e2, e3, e4, e5⟩

theorem pplace_yes (f r a : Int) (w : World) (h : sqB f r a = true) : Calls Tryd.prog 20 #[.agg #[.int .i64 f, .int .i64 r], .int .i64 a] w fun e w' => e = .returned (.tuple #[.int .i64 (a % f), .int .i64 (a / f), .int .i64 0]) ∧ Below w.heap.size w w' := by
  obtain ⟨hs, h0, h1⟩ := sqB_out h
  obtain ⟨f0, f1, r0, r1⟩ := szB_out hs
  obtain ⟨m0, m1⟩ := mul_bd f0 f1 r0 r1
  have hf0 : (f == 0) = false := by rw [beq_eq_false_iff_ne]; omega
  have hbd := Lib.hid (place_bd h)
  have ht1 : a.tmod f = a % f := Int.tmod_eq_emod_of_nonneg h0
  have ht2 : a.tdiv f = a / f := Int.tdiv_eq_ediv_of_nonneg h0
  have d0 : 0 ≤ a / f := hbd.out.2.2.1
  have d1 : a / f < r := hbd.out.2.2.2.1
  have hw : IntKind.i64.wrap (a / f) = a / f := IntWalk.i64_in _ (by omega)
  go_enter Tryd.func20, Tryd.ntmps20
  go_wp2_with (go_at_call 14; refine (pvalidsq _ _ _ _).mono ?_; rintro e w' ⟨rfl, hb⟩; obtain ⟨q0, q1, q2⟩ := box_cells hb; have hbH := Lib.hid (below_box hb); clear hb)
  go_quiet (fail)
  go_wp2
  go_ret3
  exact ⟨rfl, by first | exact below_drewN hbH.out _ | exact hbH.out.drew⟩
theorem pplace_no (f r a : Int) (w : World) (h : sqB f r a = false) : Calls Tryd.prog 20 #[.agg #[.int .i64 f, .int .i64 r], .int .i64 a] w fun e w' => e = .returned (.tuple #[.int .i64 0, .int .i64 0, .int .i64 2]) ∧ Below w.heap.size w w' := by
  go_enter Tryd.func20, Tryd.ntmps20
  go_wp2_with (go_at_call 14; refine (pvalidsq _ _ _ _).mono ?_; rintro e w' ⟨rfl, hb⟩; obtain ⟨q0, q1, q2⟩ := box_cells hb; have hbH := Lib.hid (below_box hb); clear hb)
  go_ret3
  exact ⟨rfl, hbH.out⟩

/-- the colour -/
def lightB (f a : Int) : Bool := (a % f + a / f) % 2 == 1
theorem plight_yes (f r a : Int) (w : World) (h : sqB f r a = true) : Calls Tryd.prog 21 #[.agg #[.int .i64 f, .int .i64 r], .int .i64 a] w fun e w' => e = .returned (.tuple #[.bool (lightB f a), .int .i64 0]) ∧ Below w.heap.size w w' := by
  obtain ⟨hs, h0, h1⟩ := sqB_out h
  obtain ⟨f0, f1, r0, r1⟩ := szB_out hs
  obtain ⟨d0, d1, d2, d3, d4⟩ := place_bd h
  clear d4
  go_enter Tryd.func21, Tryd.ntmps21
  go_wp2_with (go_at_call 20; refine (pplace_yes _ _ _ _ h).mono ?_; rintro e w' ⟨rfl, hb⟩; have hbH := Lib.hid (below_box hb); clear hb)
  go_ret2
  exact ⟨rfl, hbH.out⟩
theorem plight_no (f r a : Int) (w : World) (h : sqB f r a = false) : Calls Tryd.prog 21 #[.agg #[.int .i64 f, .int .i64 r], .int .i64 a] w fun e w' => e = .returned (.tuple #[.bool false, .int .i64 2]) ∧ Below w.heap.size w w' := by
  go_enter Tryd.func21, Tryd.ntmps21
  go_wp2_with (go_at_call 20; refine (pplace_no _ _ _ _ h).mono ?_; rintro e w' ⟨rfl, hb⟩; have hbH := Lib.hid (below_box hb); clear hb)
  go_ret2
  exact ⟨rfl, hbH.out⟩

/-- the greatest of four -/
def mx4 (x y z u : Int) : Int := max (max (max x y) z) u
theorem run_max_int4 {P : Program} {w : World} (ts : Array TypeId) (t : TypeId) (k k' k2 k3 : IntKind) (x y z u : Int) : (Builtin.max_ ts t #[.int k x, .int k' y, .int k2 z, .int k3 u]).run P w = .ok (.int k (mx4 x y z u)) w := by
  have e : mx4 x y z u = if u > (if z > (if y > x then y else x) then z else (if y > x then y else x)) then u else (if z > (if y > x then y else x) then z else (if y > x then y else x)) := by
    unfold mx4
    split <;> split <;> split <;> omega
  rw [e]
  simp [Builtin.max_, Builtin.max2]
attribute [local go_sem] run_max_int4
/-- the distance -/
def distV (f a b : Int) : Int := max (max (a % f - b % f) (b % f - a % f)) (max (a / f - b / f) (b / f - a / f))
set_option maxHeartbeats 400000 in
theorem pdist_yes (f r a b : Int) (w : World) (h : sqB f r a = true) (k : sqB f r b = true) : Calls Tryd.prog 28 #[.agg #[.int .i64 f, .int .i64 r], .int .i64 a, .int .i64 b] w fun e w' => e = .returned (.tuple #[.int .i64 (distV f a b), .int .i64 0]) ∧ Below w.heap.size w w' := by
  obtain ⟨hs, h0, h1⟩ := sqB_out h
  obtain ⟨f0, f1, r0, r1⟩ := szB_out hs
  obtain ⟨d0, d1, d2, d3, d4⟩ := place_bd h
  obtain ⟨g0, g1, g2, g3, g4⟩ := place_bd k
  have hd : Hid (distV f a b = max (max (a % f - b % f) (b % f - a % f)) (max (a / f - b / f) (b / f - a / f))) := rfl
  clear d4 g4
  go_enter Tryd.func28, Tryd.ntmps28
  go_wp2_with fail
  refine (pplace_yes _ _ _ _ h).mono ?_
  rintro e w1 ⟨rfl, hb⟩
  obtain ⟨q0, q1, q2⟩ := box_cells hb
  have hbH := Lib.hid (below_box hb)
  clear hb
  go_wp2_with fail
  refine (pplace_yes _ _ _ _ k).mono ?_
  rintro e w2 ⟨rfl, hb2⟩
  have hbH2 := Lib.hid (hbH.out.trans (hb2.mono hbH.out.size))
  clear hb2
  generalize a % f = x at *
  generalize a / f = y at *
  generalize b % f = x' at *
  generalize b / f = y' at *
  go_wp2
  go_ret2
  exact ⟨by rw [hd.out, show max (max (x - x') (x' - x)) (max (y - y') (y' - y)) = mx4 (x - x') (x' - x) (y - y') (y' - y) by unfold mx4; omega]; rfl, hbH2.out⟩
theorem pdist_no (f r a b : Int) (w : World) (h : sqB f r a = false ∨ sqB f r b = false) : Calls Tryd.prog 28 #[.agg #[.int .i64 f, .int .i64 r], .int .i64 a, .int .i64 b] w fun e w' => e = .returned (.tuple #[.int .i64 0, .int .i64 2]) ∧ Below w.heap.size w w' := by
  have any : ∀ (a : Int) (w : World), Calls Tryd.prog 20 #[.agg #[.int .i64 f, .int .i64 r], .int .i64 a] w fun e w' => (∃ x y z, e = .returned (.tuple #[.int .i64 x, .int .i64 y, .int .i64 z]) ∧ z = (if sqB f r a = true then 0 else 2)) ∧ Below w.heap.size w w' := by
    intro a w
    cases hq : sqB f r a
    · exact (pplace_no f r a w hq).mono fun e w' ⟨he, hb⟩ => ⟨⟨_, _, _, he, by simp⟩, hb⟩
    · exact (pplace_yes f r a w hq).mono fun e w' ⟨he, hb⟩ => ⟨⟨_, _, _, he, by simp⟩, hb⟩
  have anyH := Lib.hid any
  have hH := Lib.hid h
  clear any h
  go_enter Tryd.func28, Tryd.ntmps28
  go_wp2_with fail
  refine (anyH.out _ _).mono ?_
  rintro e w1 ⟨⟨x, y, z, rfl, hz⟩, hb⟩
  obtain ⟨q0, q1, q2⟩ := box_cells hb
  have hbH := Lib.hid (below_box hb)
  have hzH := Lib.hid hz
  clear hb hz
  go_wp2_with fail
  refine (anyH.out _ _).mono ?_
  rintro e w2 ⟨⟨x', y', z', rfl, hz'⟩, hb2⟩
  have hbH2 := Lib.hid (hbH.out.trans (hb2.mono hbH.out.size))
  have hzH' := Lib.hid hz'
  clear hb2 hz'
  by_cases hz0 : z = 0
  · subst hz0
    have hz1 : (z' != 0) = true := by
      have h1 := hzH.out
      have h2 := hzH'.out
      rcases hH.out with h | h
      · rw [h] at h1; simp at h1
      · rw [h] at h2; simp at h2; rw [h2]; rfl
    go_wp2
    go_ret2
    exact ⟨rfl, hbH2.out⟩
  · have hz1 : (z != 0) = true := by simpa using hz0
    clear hz0
    go_wp2
    go_ret2
    exact ⟨rfl, hbH2.out⟩

/-- the number of a file and a rank -/
theorem at_bd {f r x y : Int} (hs : szB f r = true) (h : onB f r x y = true) : 0 ≤ x ∧ x < f ∧ 0 ≤ y ∧ y < r ∧ 0 ≤ y * f ∧ y * f ≤ 56 := by
  obtain ⟨f0, f1, r0, r1⟩ := szB_out hs
  have := of_decide_eq_true h
  obtain ⟨h0, h1, h2, h3⟩ := this
  have e1 : 0 ≤ y * f := Int.mul_nonneg h2 (by omega)
  have e2 : y * f ≤ 7 * 8 := Int.mul_le_mul (by omega) f1 (by omega) (by omega)
  exact ⟨h0, h1, h2, h3, e1, by omega⟩
theorem pat_yes (f r x y : Int) (w : World) (hs : szB f r = true) (h : onB f r x y = true) : Calls Tryd.prog 19 #[.agg #[.int .i64 f, .int .i64 r], .int .i64 x, .int .i64 y] w fun e w' => e = .returned (.tuple #[.int .i64 (x + y * f), .int .i64 0]) ∧ Below w.heap.size w w' := by
  obtain ⟨f0, f1, r0, r1⟩ := szB_out hs
  obtain ⟨d0, d1, d2, d3, d4, d5⟩ := at_bd hs h
  go_enter Tryd.func19, Tryd.ntmps19
  go_wp2_with (first
    | (go_at_call 12; refine (pvsize _ _ _).mono ?_; rintro e w1 ⟨rfl, hb⟩; obtain ⟨q0, q1, q2⟩ := box_cells hb; have hbH := Lib.hid (below_box hb); clear hb)
    | (go_at_call 42; refine (pon _ _ _ _ _).mono ?_; rintro e w2 ⟨rfl, hb2⟩; have p0 := (hb2.cell (p := ⟨w.heap.size, 0, none⟩) q2).trans q0; have hbH2 := Lib.hid (hbH.out.trans (hb2.mono hbH.out.size)); clear hb2))
  go_ret2
  exact ⟨rfl, hbH2.out⟩
theorem pat_arg (f r x y : Int) (w : World) (hs : szB f r = false) : Calls Tryd.prog 19 #[.agg #[.int .i64 f, .int .i64 r], .int .i64 x, .int .i64 y] w fun e w' => e = .returned (.tuple #[.int .i64 0, .int .i64 2]) ∧ Below w.heap.size w w' := by
  go_enter Tryd.func19, Tryd.ntmps19
  go_wp2_with (go_at_call 12; refine (pvsize _ _ _).mono ?_; rintro e w1 ⟨rfl, hb⟩; obtain ⟨q0, q1, q2⟩ := box_cells hb; have hbH := Lib.hid (below_box hb); clear hb)
  go_ret2
  exact ⟨rfl, hbH.out⟩
theorem pat_range (f r x y : Int) (w : World) (hs : szB f r = true) (h : onB f r x y = false) : Calls Tryd.prog 19 #[.agg #[.int .i64 f, .int .i64 r], .int .i64 x, .int .i64 y] w fun e w' => e = .returned (.tuple #[.int .i64 0, .int .i64 3]) ∧ Below w.heap.size w w' := by
  go_enter Tryd.func19, Tryd.ntmps19
  go_wp2_with (first
    | (go_at_call 12; refine (pvsize _ _ _).mono ?_; rintro e w1 ⟨rfl, hb⟩; obtain ⟨q0, q1, q2⟩ := box_cells hb; have hbH := Lib.hid (below_box hb); clear hb)
    | (go_at_call 42; refine (pon _ _ _ _ _).mono ?_; rintro e w2 ⟨rfl, hb2⟩; have hbH2 := Lib.hid (hbH.out.trans (hb2.mono hbH.out.size)); clear hb2))
  go_ret2
  exact ⟨rfl, hbH2.out⟩

theorem pcount_yes (f r : Int) (w : World) (hs : szB f r = true) : Calls Tryd.prog 10 #[.agg #[.int .i64 f, .int .i64 r]] w fun e w' => e = .returned (.tuple #[.int .i64 (f * r), .int .i64 0]) ∧ Below w.heap.size w w' := by
  obtain ⟨f0, f1, r0, r1⟩ := szB_out hs
  obtain ⟨m0, m1⟩ := mul_bd f0 f1 r0 r1
  go_enter Tryd.func10, Tryd.ntmps10
  go_wp2_with (go_at_call 12; refine (pvsize _ _ _).mono ?_; rintro e w1 ⟨rfl, hb⟩; obtain ⟨q0, q1, q2⟩ := box_cells hb; have hbH := Lib.hid (below_box hb); clear hb)
  go_ret2
  exact ⟨rfl, hbH.out⟩
theorem pcount_no (f r : Int) (w : World) (hs : szB f r = false) : Calls Tryd.prog 10 #[.agg #[.int .i64 f, .int .i64 r]] w fun e w' => e = .returned (.tuple #[.int .i64 0, .int .i64 2]) ∧ Below w.heap.size w w' := by
  go_enter Tryd.func10, Tryd.ntmps10
  go_wp2_with (go_at_call 12; refine (pvsize _ _ _).mono ?_; rintro e w1 ⟨rfl, hb⟩; obtain ⟨q0, q1, q2⟩ := box_cells hb; have hbH := Lib.hid (below_box hb); clear hb)
  go_ret2
  exact ⟨rfl, hbH.out⟩
end Go.Proofs.YtjjchodcoeciaaaDoor
