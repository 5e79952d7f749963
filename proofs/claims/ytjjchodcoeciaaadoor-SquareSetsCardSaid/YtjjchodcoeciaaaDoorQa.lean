/- Layer 1: sizes and squares, the contracts of what tests them. -/
import Derived.Test.YtjjchodcoeciaaaDoorRows
import Derived.WalkKit
import Derived.ProofKit
import Derived.Below
import Derived.Lib.Hide
import Derived.WalkSpells
import Derived.WalkLawsBesides
import Derived.Deep.QuietTactic
import Derived.BigQuiet
import Derived.Deep.Draws
import Derived.Outline
namespace Go.Proofs.YtjjchodcoeciaaaDoor
open Go.RowKit
set_option linter.unusedSimpArgs false
set_option linter.unusedVariables false

theorem ri {k : IntKind} {a b : Int} (h : a = b) : Ending.returned (.int k a) = .returned (.int k b) := by rw [h]
theorem rb {a b : Bool} (h : a = b) : Ending.returned (.bool a) = .returned (.bool b) := by rw [h]
theorem vi {k : IntKind} {a b : Int} (h : a = b) : Value.int k a = .int k b := by rw [h]
theorem vb {a b : Bool} (h : a = b) : Value.bool a = .bool b := by rw [h]
theorem below_drewN {B : Nat} {a w : World} (h : Below B a w) (n : Nat) : Below B a (w.drewN n) := ⟨h.os, h.tape, h.output, h.size, h.block⟩
/-- what a call made behind one new block: nothing that was there has turned -/
theorem below_box {w w1 : World} {o : Obj} (hb : Below (w.alloc o).heap.size (w.alloc o) w1) : Below w.heap.size w w1 :=
  ((Below.refl _ _).alloc (Nat.le_refl _) _).trans (hb.mono (by simp))
/-- the two cells of a size that was boxed lie behind a call as they lay -/
theorem box_cells {w w1 : World} {f r : Int} {t : TypeId} (hb : Below (w.alloc (.cells #[.int .i64 f, .int .i64 r] t)).heap.size (w.alloc (.cells #[.int .i64 f, .int .i64 r] t)) w1) :
    w1.cell? ⟨w.heap.size, 0, none⟩ = some (.int .i64 f) ∧ w1.cell? ⟨w.heap.size, 1, none⟩ = some (.int .i64 r) ∧ w.heap.size < w1.heap.size := by
  refine ⟨?_, ?_, ?_⟩
  · rw [hb.cell (p := ⟨w.heap.size, 0, none⟩) (by simp)]; simp
  · rw [hb.cell (p := ⟨w.heap.size, 1, none⟩) (by simp)]; simp
  · have := hb.size; simp at this; omega

/-- is x from a to b? -/
def inB (x a b : Int) : Bool := decide (a ≤ x ∧ x ≤ b)
theorem inB_yes {x a b : Int} (h1 : a ≤ x) (h2 : x ≤ b) : inB x a b = true := decide_eq_true ⟨h1, h2⟩
theorem inB_no {x a b : Int} (h : x < a ∨ b < x) : inB x a b = false := decide_eq_false (by omega)
theorem inB_or (x a b : Int) : (a ≤ x ∧ x ≤ b ∧ inB x a b = true) ∨ ((x < a ∨ b < x) ∧ inB x a b = false) := by
  by_cases h : a ≤ x ∧ x ≤ b
  · exact .inl ⟨h.1, h.2, inB_yes h.1 h.2⟩
  · exact .inr ⟨by omega, inB_no (by omega)⟩
/-- is it a size? -/
def szB (f r : Int) : Bool := decide (3 ≤ f ∧ f ≤ 8 ∧ 3 ≤ r ∧ r ≤ 8)
theorem szB_yes {f r : Int} (f0 : 3 ≤ f) (f1 : f ≤ 8) (r0 : 3 ≤ r) (r1 : r ≤ 8) : szB f r = true := decide_eq_true ⟨f0, f1, r0, r1⟩
theorem szB_out {f r : Int} (h : szB f r = true) : 3 ≤ f ∧ f ≤ 8 ∧ 3 ≤ r ∧ r ≤ 8 := of_decide_eq_true h
theorem szB_no {f r : Int} (h : (f < 3 ∨ 8 < f) ∨ (r < 3 ∨ 8 < r)) : szB f r = false := decide_eq_false (by omega)
theorem mul_bd {f r : Int} (f0 : 3 ≤ f) (f1 : f ≤ 8) (r0 : 3 ≤ r) (r1 : r ≤ 8) : 9 ≤ f * r ∧ f * r ≤ 64 := by
  have h1 : 3 * 3 ≤ f * r := Int.mul_le_mul f0 r0 (by omega) (by omega)
  have h2 : f * r ≤ 8 * 8 := Int.mul_le_mul f1 r1 (by omega) (by omega)
  omega
/-- is it a square of the board? -/
def sqB (f r a : Int) : Bool := szB f r && decide (0 ≤ a ∧ a < f * r)
theorem sqB_sz {f r a : Int} (h : szB f r = false) : sqB f r a = false := by unfold sqB; rw [h]; rfl
theorem sqB_in {f r a : Int} (h : szB f r = true) : sqB f r a = decide (0 ≤ a ∧ a < f * r) := by unfold sqB; rw [h]; rfl
theorem sqB_out {f r a : Int} (h : sqB f r a = true) : szB f r = true ∧ 0 ≤ a ∧ a < f * r := by
  unfold sqB at h
  rw [Bool.and_eq_true, decide_eq_true_eq] at h
  exact h
/-- are the file and the rank on the board? -/
def onB (f r x y : Int) : Bool := decide (0 ≤ x ∧ x < f ∧ 0 ≤ y ∧ y < r)

theorem pside (n : Int) (w : World) : Calls Tryd.prog 40 #[.int .i64 n] w fun e w' => e = .returned (.bool (inB n 3 8)) ∧ w = w' := by
  rcases inB_or n 3 8 with ⟨h0, h1, hb⟩ | ⟨h, hb⟩
  · have hbH := Lib.hid hb
    clear hb
    go_enter Tryd.func40, Tryd.ntmps40
    go_wp2
    go_ret
    exact ⟨by rw [hbH.out]; rfl, rfl⟩
  · have hbH := Lib.hid hb
    clear hb
    rcases (by omega : n < 3 ∨ (3 ≤ n ∧ 8 < n)) with h | ⟨h', h⟩
    all_goals
      go_enter Tryd.func40, Tryd.ntmps40
      go_wp2
      go_ret
      exact ⟨by rw [hbH.out]; first | rfl | exact rb (by simp; omega), rfl⟩
theorem pvsize (f r : Int) (w : World) : Calls Tryd.prog 12 #[.agg #[.int .i64 f, .int .i64 r]] w fun e w' => e = .returned (.bool (szB f r)) ∧ Below w.heap.size w w' := by
  rcases inB_or f 3 8 with ⟨f0, f1, hf⟩ | ⟨h, hf⟩
  · rcases inB_or r 3 8 with ⟨r0, r1, hr⟩ | ⟨h, hr⟩
    · have hs := Lib.hid (szB_yes f0 f1 r0 r1)
      go_enter Tryd.func12, Tryd.ntmps12
      go_wp2_with (go_at_call 40; refine (pside _ _).mono ?_; rintro e w' ⟨rfl, rfl⟩)
      go_ret
      exact ⟨by rw [hs.out]; rfl, (Below.refl _ _).alloc (Nat.le_refl _) _⟩
    · have hs := Lib.hid (szB_no (f := f) (r := r) (.inr h))
      go_enter Tryd.func12, Tryd.ntmps12
      go_wp2_with (go_at_call 40; refine (pside _ _).mono ?_; rintro e w' ⟨rfl, rfl⟩)
      go_ret
      exact ⟨by rw [hs.out]; rfl, (Below.refl _ _).alloc (Nat.le_refl _) _⟩
  · have hs := Lib.hid (szB_no (f := f) (r := r) (.inl h))
    go_enter Tryd.func12, Tryd.ntmps12
    go_wp2_with (go_at_call 40; refine (pside _ _).mono ?_; rintro e w' ⟨rfl, rfl⟩)
    go_ret
    exact ⟨by rw [hs.out]; rfl, (Below.refl _ _).alloc (Nat.le_refl _) _⟩
theorem rsize (f r : Int) (w : World) : Calls Tryd.prog 13 #[.agg #[.int .i64 f, .int .i64 r]] w fun e w' => e = .returned (.bool (szB f r)) ∧ Below w.heap.size w w' := by
  rcases (by omega : f < 3 ∨ (3 ≤ f ∧ 8 < f) ∨ (3 ≤ f ∧ f ≤ 8)) with h | ⟨h, h'⟩ | ⟨f0, f1⟩
  · have hs := Lib.hid (szB_no (f := f) (r := r) (.inl (.inl h)))
    go_enter Tryd.func13, Tryd.ntmps13
    go_wp2
    go_ret
    exact ⟨by rw [hs.out]; rfl, (Below.refl _ _).alloc (Nat.le_refl _) _⟩
  · have hs := Lib.hid (szB_no (f := f) (r := r) (.inl (.inr h')))
    go_enter Tryd.func13, Tryd.ntmps13
    go_wp2
    go_ret
    exact ⟨by rw [hs.out]; exact rb (by first | rfl | (simp; omega)), (Below.refl _ _).alloc (Nat.le_refl _) _⟩
  · rcases (by omega : r < 3 ∨ (3 ≤ r ∧ 8 < r) ∨ (3 ≤ r ∧ r ≤ 8)) with h | ⟨h, h'⟩ | ⟨r0, r1⟩
    · have hs := Lib.hid (szB_no (f := f) (r := r) (.inr (.inl h)))
      go_enter Tryd.func13, Tryd.ntmps13
      go_wp2
      go_ret
      exact ⟨by rw [hs.out]; exact rb (by first | rfl | (simp; omega)), (Below.refl _ _).alloc (Nat.le_refl _) _⟩
    · have hs := Lib.hid (szB_no (f := f) (r := r) (.inr (.inr h')))
      go_enter Tryd.func13, Tryd.ntmps13
      go_wp2
      go_ret
      exact ⟨by rw [hs.out]; exact rb (by first | rfl | (simp; omega)), (Below.refl _ _).alloc (Nat.le_refl _) _⟩
    · have hs := Lib.hid (szB_yes f0 f1 r0 r1)
      go_enter Tryd.func13, Tryd.ntmps13
      go_wp2
      go_ret
      exact ⟨by rw [hs.out]; exact rb (by first | rfl | (simp; omega)), (Below.refl _ _).alloc (Nat.le_refl _) _⟩

theorem pvalidsq (f r a : Int) (w : World) : Calls Tryd.prog 14 #[.agg #[.int .i64 f, .int .i64 r], .int .i64 a] w fun e w' => e = .returned (.bool (sqB f r a)) ∧ Below w.heap.size w w' := by
  cases hs : szB f r
  · have hq := Lib.hid (sqB_sz (a := a) hs)
    go_enter Tryd.func14, Tryd.ntmps14
    go_wp2_with (go_at_call 12; refine (pvsize _ _ _).mono ?_; rintro e w' ⟨rfl, hb⟩; obtain ⟨q0, q1, q2⟩ := box_cells hb; have hbH := Lib.hid (below_box hb); clear hb)
    go_ret
    exact ⟨by rw [hq.out]; rfl, hbH.out⟩
  · obtain ⟨f0, f1, r0, r1⟩ := szB_out hs
    obtain ⟨m0, m1⟩ := mul_bd f0 f1 r0 r1
    have hq := Lib.hid (sqB_in (a := a) hs)
    rcases (by omega : a < 0 ∨ (0 ≤ a ∧ a < f * r) ∨ (0 ≤ a ∧ f * r ≤ a)) with h | ⟨h, h'⟩ | ⟨h, h'⟩
    all_goals
      go_enter Tryd.func14, Tryd.ntmps14
      go_wp2_with (go_at_call 12; refine (pvsize _ _ _).mono ?_; rintro e w' ⟨rfl, hb⟩; obtain ⟨q0, q1, q2⟩ := box_cells hb; have hbH := Lib.hid (below_box hb); clear hb)
      go_ret
      exact ⟨by rw [hq.out]; exact rb (by first | rfl | (rw [decide_eq_decide]; omega) | (symm; simp; omega)), hbH.out⟩

theorem rvalidsq (f r a : Int) (w : World) : Calls Tryd.prog 15 #[.agg #[.int .i64 f, .int .i64 r], .int .i64 a] w fun e w' => e = .returned (.bool (sqB f r a)) ∧ Below w.heap.size w w' := by
  cases hs : szB f r
  · have hq := Lib.hid (sqB_sz (a := a) hs)
    go_enter Tryd.func15, Tryd.ntmps15
    go_wp2_with (go_at_call 13; refine (rsize _ _ _).mono ?_; rintro e w' ⟨rfl, hb⟩; obtain ⟨q0, q1, q2⟩ := box_cells hb; have hbH := Lib.hid (below_box hb); clear hb)
    go_ret
    exact ⟨by rw [hq.out]; rfl, hbH.out⟩
  · obtain ⟨f0, f1, r0, r1⟩ := szB_out hs
    obtain ⟨m0, m1⟩ := mul_bd f0 f1 r0 r1
    have hq := Lib.hid (sqB_in (a := a) hs)
    rcases (by omega : a < 0 ∨ (0 ≤ a ∧ a < f * r) ∨ (0 ≤ a ∧ f * r ≤ a)) with h | ⟨h, h'⟩ | ⟨h, h'⟩
    all_goals
      go_enter Tryd.func15, Tryd.ntmps15
      go_wp2_with (go_at_call 13; refine (rsize _ _ _).mono ?_; rintro e w' ⟨rfl, hb⟩; obtain ⟨q0, q1, q2⟩ := box_cells hb; have hbH := Lib.hid (below_box hb); clear hb)
      go_ret
      exact ⟨by rw [hq.out]; exact rb (by first | rfl | (rw [decide_eq_decide]; omega) | (symm; simp; omega)), hbH.out⟩

theorem pon (f r x y : Int) (w : World) : Calls Tryd.prog 42 #[.agg #[.int .i64 f, .int .i64 r], .int .i64 x, .int .i64 y] w fun e w' => e = .returned (.bool (onB f r x y)) ∧ Below w.heap.size w w' := by
  have ho : Hid (onB f r x y = decide (0 ≤ x ∧ x < f ∧ 0 ≤ y ∧ y < r)) := rfl
  rcases (by omega : x < 0 ∨ (0 ≤ x ∧ f ≤ x) ∨ (0 ≤ x ∧ x < f)) with h | ⟨h, h'⟩ | ⟨h, h'⟩
  · go_enter Tryd.func42, Tryd.ntmps42
    go_wp2
    go_ret
    exact ⟨by rw [ho.out]; exact rb (by first | rfl | (symm; simp; omega)), (Below.refl _ _).alloc (Nat.le_refl _) _⟩
  · go_enter Tryd.func42, Tryd.ntmps42
    go_wp2
    go_ret
    exact ⟨by rw [ho.out]; exact rb (by first | rfl | (symm; simp; omega)), (Below.refl _ _).alloc (Nat.le_refl _) _⟩
  · rcases (by omega : y < 0 ∨ (0 ≤ y ∧ r ≤ y) ∨ (0 ≤ y ∧ y < r)) with k | ⟨k, k'⟩ | ⟨k, k'⟩
    all_goals
      go_enter Tryd.func42, Tryd.ntmps42
      go_wp2
      go_ret
      exact ⟨by rw [ho.out]; exact rb (by first | rfl | (rw [decide_eq_decide]; omega) | (symm; rw [decide_eq_true_iff]; omega) | (symm; rw [decide_eq_false_iff_not]; omega)), (Below.refl _ _).alloc (Nat.le_refl _) _⟩
end Go.Proofs.YtjjchodcoeciaaaDoor
