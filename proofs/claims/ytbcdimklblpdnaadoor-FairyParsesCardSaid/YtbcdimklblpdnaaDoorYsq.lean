/- Contracts of functions that another seat has proved already, over this program: XQa, XQb. -/
import Derived.WalkKit
import Derived.ProofKit
import Derived.Below
import Derived.Lib.Hide
import Derived.WalkSpells
import Derived.WalkLawsBesides
import Derived.Deep.QuietTactic
import Derived.BigQuiet
import Derived.Deep.Draws
import Derived.Outline
import Derived.Test.YtbcdimklblpdnaaDoorProg
namespace Go.Proofs.YtbcdimklblpdnaaDoor.SQ
open Go.RowKit
set_option linter.unusedSimpArgs false
set_option linter.unusedVariables false
theorem ri {k : IntKind} {a b : Int} (h : a = b) : Ending.returned (.int k a) = .returned (.int k b) := by rw [h]
theorem rb {a b : Bool} (h : a = b) : Ending.returned (.bool a) = .returned (.bool b) := by rw [h]
theorem vi {k : IntKind} {a b : Int} (h : a = b) : Value.int k a = .int k b := by rw [h]
theorem vb {a b : Bool} (h : a = b) : Value.bool a = .bool b := by rw [h]
theorem below_drewN {B : Nat} {a w : World} (h : Below B a w) (n : Nat) : Below B a (w.drewN n) := ⟨h.os, h.tape, h.output, h.size, h.block⟩
/-- what a call made behind one new block: nothing that was there has turned -/
theorem below_box {w w1 : World} {o : Obj} (hb : Below (w.alloc o).heap.size (w.alloc o) w1) : Below w.heap.size w w1 :=
  ((Below.refl _ _).alloc (Nat.le_refl _) _).trans (hb.mono (by simp))
/-- the two cells of a size that was boxed lie behind a call as they lay -/
theorem box_cells {w w1 : World} {f r : Int} {t : TypeId} (hb : Below (w.alloc (.cells #[.int .i64 f, .int .i64 r] t)).heap.size (w.alloc (.cells #[.int .i64 f, .int .i64 r] t)) w1) :
    w1.cell? ⟨w.heap.size, 0, none⟩ = some (.int .i64 f) ∧ w1.cell? ⟨w.heap.size, 1, none⟩ = some (.int .i64 r) ∧ w.heap.size < w1.heap.size := by
  refine ⟨?_, ?_, ?_⟩
  · rw [hb.cell (p := ⟨w.heap.size, 0, none⟩) (by simp)]; simp
  · rw [hb.cell (p := ⟨w.heap.size, 1, none⟩) (by simp)]; simp
  · have := hb.size; simp at this; omega
/-- is x from a to b? -/
def inB (x a b : Int) : Bool := decide (a ≤ x ∧ x ≤ b)
theorem inB_yes {x a b : Int} (h1 : a ≤ x) (h2 : x ≤ b) : inB x a b = true := decide_eq_true ⟨h1, h2⟩
theorem inB_no {x a b : Int} (h : x < a ∨ b < x) : inB x a b = false := decide_eq_false (by omega)
theorem inB_or (x a b : Int) : (a ≤ x ∧ x ≤ b ∧ inB x a b = true) ∨ ((x < a ∨ b < x) ∧ inB x a b = false) := by
  by_cases h : a ≤ x ∧ x ≤ b
  · exact .inl ⟨h.1, h.2, inB_yes h.1 h.2⟩
  · exact .inr ⟨by omega, inB_no (by omega)⟩
/-- is it a size? -/
def szB (f r : Int) : Bool := decide (3 ≤ f ∧ f ≤ 8 ∧ 3 ≤ r ∧ r ≤ 8)
theorem szB_yes {f r : Int} (f0 : 3 ≤ f) (f1 : f ≤ 8) (r0 : 3 ≤ r) (r1 : r ≤ 8) : szB f r = true := decide_eq_true ⟨f0, f1, r0, r1⟩
theorem szB_out {f r : Int} (h : szB f r = true) : 3 ≤ f ∧ f ≤ 8 ∧ 3 ≤ r ∧ r ≤ 8 := of_decide_eq_true h
theorem szB_no {f r : Int} (h : (f < 3 ∨ 8 < f) ∨ (r < 3 ∨ 8 < r)) : szB f r = false := decide_eq_false (by omega)
theorem mul_bd {f r : Int} (f0 : 3 ≤ f) (f1 : f ≤ 8) (r0 : 3 ≤ r) (r1 : r ≤ 8) : 9 ≤ f * r ∧ f * r ≤ 64 := by
  have h1 : 3 * 3 ≤ f * r := Int.mul_le_mul f0 r0 (by omega) (by omega)
  have h2 : f * r ≤ 8 * 8 := Int.mul_le_mul f1 r1 (by omega) (by omega)
  omega
/-- is it a square of the board? -/
def sqB (f r a : Int) : Bool := szB f r && decide (0 ≤ a ∧ a < f * r)
theorem sqB_sz {f r a : Int} (h : szB f r = false) : sqB f r a = false := by unfold sqB; rw [h]; rfl
theorem sqB_in {f r a : Int} (h : szB f r = true) : sqB f r a = decide (0 ≤ a ∧ a < f * r) := by unfold sqB; rw [h]; rfl
theorem sqB_out {f r a : Int} (h : sqB f r a = true) : szB f r = true ∧ 0 ≤ a ∧ a < f * r := by
  unfold sqB at h
  rw [Bool.and_eq_true, decide_eq_true_eq] at h
  exact h
/-- are the file and the rank on the board? -/
def onB (f r x y : Int) : Bool := decide (0 ≤ x ∧ x < f ∧ 0 ≤ y ∧ y < r)
theorem pside (n : Int) (w : World) : Calls Tryd.prog 91 #[.int .i64 n] w fun e w' => e = .returned (.bool (inB n 3 8)) ∧ w = w' := by
  rcases inB_or n 3 8 with ⟨h0, h1, hb⟩ | ⟨h, hb⟩
  · have hbH := Lib.hid hb
    clear hb
    go_enter Tryd.func91, Tryd.ntmps91
    go_wp2
    go_ret
    exact ⟨by rw [hbH.out]; rfl, rfl⟩
  · have hbH := Lib.hid hb
    clear hb
    rcases (by omega : n < 3 ∨ (3 ≤ n ∧ 8 < n)) with h | ⟨h', h⟩
    all_goals
      go_enter Tryd.func91, Tryd.ntmps91
      go_wp2
      go_ret
      exact ⟨by rw [hbH.out]; first | rfl | exact rb (by simp; omega), rfl⟩
theorem pvsize (f r : Int) (w : World) : Calls Tryd.prog 65 #[.agg #[.int .i64 f, .int .i64 r]] w fun e w' => e = .returned (.bool (szB f r)) ∧ Below w.heap.size w w' := by
  rcases inB_or f 3 8 with ⟨f0, f1, hf⟩ | ⟨h, hf⟩
  · rcases inB_or r 3 8 with ⟨r0, r1, hr⟩ | ⟨h, hr⟩
    · have hs := Lib.hid (szB_yes f0 f1 r0 r1)
      go_enter Tryd.func65, Tryd.ntmps65
      go_wp2_with (go_at_call 91; refine (pside _ _).mono ?_; rintro e w' ⟨rfl, rfl⟩)
      go_ret
      exact ⟨by rw [hs.out]; rfl, (Below.refl _ _).alloc (Nat.le_refl _) _⟩
    · have hs := Lib.hid (szB_no (f := f) (r := r) (.inr h))
      go_enter Tryd.func65, Tryd.ntmps65
      go_wp2_with (go_at_call 91; refine (pside _ _).mono ?_; rintro e w' ⟨rfl, rfl⟩)
      go_ret
      exact ⟨by rw [hs.out]; rfl, (Below.refl _ _).alloc (Nat.le_refl _) _⟩
  · have hs := Lib.hid (szB_no (f := f) (r := r) (.inl h))
    go_enter Tryd.func65, Tryd.ntmps65
    go_wp2_with (go_at_call 91; refine (pside _ _).mono ?_; rintro e w' ⟨rfl, rfl⟩)
    go_ret
    exact ⟨by rw [hs.out]; rfl, (Below.refl _ _).alloc (Nat.le_refl _) _⟩
theorem pvalidsq (f r a : Int) (w : World) : Calls Tryd.prog 48 #[.agg #[.int .i64 f, .int .i64 r], .int .i64 a] w fun e w' => e = .returned (.bool (sqB f r a)) ∧ Below w.heap.size w w' := by
  cases hs : szB f r
  · have hq := Lib.hid (sqB_sz (a := a) hs)
    go_enter Tryd.func48, Tryd.ntmps48
    go_wp2_with (go_at_call 65; refine (pvsize _ _ _).mono ?_; rintro e w' ⟨rfl, hb⟩; obtain ⟨q0, q1, q2⟩ := box_cells hb; have hbH := Lib.hid (below_box hb); clear hb)
    go_ret
    exact ⟨by rw [hq.out]; rfl, hbH.out⟩
  · obtain ⟨f0, f1, r0, r1⟩ := szB_out hs
    obtain ⟨m0, m1⟩ := mul_bd f0 f1 r0 r1
    have hq := Lib.hid (sqB_in (a := a) hs)
    rcases (by omega : a < 0 ∨ (0 ≤ a ∧ a < f * r) ∨ (0 ≤ a ∧ f * r ≤ a)) with h | ⟨h, h'⟩ | ⟨h, h'⟩
    all_goals
      go_enter Tryd.func48, Tryd.ntmps48
      go_wp2_with (go_at_call 65; refine (pvsize _ _ _).mono ?_; rintro e w' ⟨rfl, hb⟩; obtain ⟨q0, q1, q2⟩ := box_cells hb; have hbH := Lib.hid (below_box hb); clear hb)
      go_ret
      exact ⟨by rw [hq.out]; exact rb (by first | rfl | (rw [decide_eq_decide]; omega) | (symm; simp; omega)), hbH.out⟩
theorem place_bd {f r a : Int} (h : sqB f r a = true) : 0 ≤ a % f ∧ a % f < f ∧ 0 ≤ a / f ∧ a / f < r ∧ a % f + a / f * f = a := by
  obtain ⟨hs, h0, h1⟩ := sqB_out h
  obtain ⟨f0, f1, r0, r1⟩ := szB_out hs
  have e1 : 0 ≤ a % f := Int.emod_nonneg _ (by omega)
  have e2 : a % f < f := Int.emod_lt_of_pos _ (by omega)
  have e3 : 0 ≤ a / f := Int.ediv_nonneg h0 (by omega)
  have e4 : a / f < r := Int.ediv_lt_of_lt_mul (by omega) (by rw [Int.mul_comm]; exact h1)
  have e5 : a % f + a / f * f = a := by rw [Int.mul_comm]; exact Int.emod_add_mul_ediv a f
  exact ⟨e1, e2, e3, e4, e5⟩
/-- the colour -/
def lightB (f a : Int) : Bool := (a % f + a / f) % 2 == 1
/-- the greatest of four -/
def mx4 (x y z u : Int) : Int := max (max (max x y) z) u
theorem run_max_int4 {P : Program} {w : World} (ts : Array TypeId) (t : TypeId) (k k' k2 k3 : IntKind) (x y z u : Int) : (Builtin.max_ ts t #[.int k x, .int k' y, .int k2 z, .int k3 u]).run P w = .ok (.int k (mx4 x y z u)) w := by
  have e : mx4 x y z u = if u > (if z > (if y > x then y else x) then z else (if y > x then y else x)) then u else (if z > (if y > x then y else x) then z else (if y > x then y else x)) := by
    unfold mx4
    split <;> split <;> split <;> omega
  rw [e]
  simp [Builtin.max_, Builtin.max2]
attribute [local go_sem] run_max_int4
/-- the distance -/
def distV (f a b : Int) : Int := max (max (a % f - b % f) (b % f - a % f)) (max (a / f - b / f) (b / f - a / f))
/-- the number of a file and a rank -/
theorem at_bd {f r x y : Int} (hs : szB f r = true) (h : onB f r x y = true) : 0 ≤ x ∧ x < f ∧ 0 ≤ y ∧ y < r ∧ 0 ≤ y * f ∧ y * f ≤ 56 := by
  obtain ⟨f0, f1, r0, r1⟩ := szB_out hs
  have := of_decide_eq_true h
  obtain ⟨h0, h1, h2, h3⟩ := this
  have e1 : 0 ≤ y * f := Int.mul_nonneg h2 (by omega)
  have e2 : y * f ≤ 7 * 8 := Int.mul_le_mul (by omega) f1 (by omega) (by omega)
  exact ⟨h0, h1, h2, h3, e1, by omega⟩
theorem pcount_yes (f r : Int) (w : World) (hs : szB f r = true) : Calls Tryd.prog 47 #[.agg #[.int .i64 f, .int .i64 r]] w fun e w' => e = .returned (.tuple #[.int .i64 (f * r), .int .i64 0]) ∧ Below w.heap.size w w' := by
  obtain ⟨f0, f1, r0, r1⟩ := szB_out hs
  obtain ⟨m0, m1⟩ := mul_bd f0 f1 r0 r1
  go_enter Tryd.func47, Tryd.ntmps47
  go_wp2_with (go_at_call 65; refine (pvsize _ _ _).mono ?_; rintro e w1 ⟨rfl, hb⟩; obtain ⟨q0, q1, q2⟩ := box_cells hb; have hbH := Lib.hid (below_box hb); clear hb)
  go_ret2
  exact ⟨rfl, hbH.out⟩
theorem pcount_no (f r : Int) (w : World) (hs : szB f r = false) : Calls Tryd.prog 47 #[.agg #[.int .i64 f, .int .i64 r]] w fun e w' => e = .returned (.tuple #[.int .i64 0, .int .i64 2]) ∧ Below w.heap.size w w' := by
  go_enter Tryd.func47, Tryd.ntmps47
  go_wp2_with (go_at_call 65; refine (pvsize _ _ _).mono ?_; rintro e w1 ⟨rfl, hb⟩; obtain ⟨q0, q1, q2⟩ := box_cells hb; have hbH := Lib.hid (below_box hb); clear hb)
  go_ret2
  exact ⟨rfl, hbH.out⟩
end Go.Proofs.YtbcdimklblpdnaaDoor.SQ
