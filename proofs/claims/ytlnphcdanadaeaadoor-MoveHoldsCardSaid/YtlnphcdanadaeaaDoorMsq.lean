/- Contracts of functions that another seat has proved already, over this program: XQa, XQb, XQc, XQd, XQe, XQf, XQh:onB_out,mul_bd2, XQk, XQad. -/
import Derived.WalkKit
import Derived.ProofKit
import Derived.Below
import Derived.Lib.Hide
import Derived.WalkSpells
import Derived.WalkLawsBesides
import Derived.Deep.QuietTactic
import Derived.BigQuiet
import Derived.Deep.Draws
import Derived.Outline
import Derived.Deep.RegionHeld3
import Derived.Deep.DrawnRows
import Derived.BigRegion
import Derived.Test.YtlnphcdanadaeaaDoorProg
namespace Go.Proofs.YtlnphcdanadaeaaDoor
open Go.RowKit
set_option linter.unusedSimpArgs false
set_option linter.unusedVariables false
theorem ri {k : IntKind} {a b : Int} (h : a = b) : Ending.returned (.int k a) = .returned (.int k b) := by rw [h]
theorem rb {a b : Bool} (h : a = b) : Ending.returned (.bool a) = .returned (.bool b) := by rw [h]
theorem vi {k : IntKind} {a b : Int} (h : a = b) : Value.int k a = .int k b := by rw [h]
theorem vb {a b : Bool} (h : a = b) : Value.bool a = .bool b := by rw [h]
theorem below_drewN {B : Nat} {a w : World} (h : Below B a w) (n : Nat) : Below B a (w.drewN n) := ⟨h.os, h.tape, h.output, h.size, h.block⟩
/-- what a call made behind one new block: nothing that was there has turned -/
theorem below_box {w w1 : World} {o : Obj} (hb : Below (w.alloc o).heap.size (w.alloc o) w1) : Below w.heap.size w w1 :=
  ((Below.refl _ _).alloc (Nat.le_refl _) _).trans (hb.mono (by simp))
/-- the two cells of a size that was boxed lie behind a call as they lay -/
theorem box_cells {w w1 : World} {f r : Int} {t : TypeId} (hb : Below (w.alloc (.cells #[.int .i64 f, .int .i64 r] t)).heap.size (w.alloc (.cells #[.int .i64 f, .int .i64 r] t)) w1) :
    w1.cell? ⟨w.heap.size, 0, none⟩ = some (.int .i64 f) ∧ w1.cell? ⟨w.heap.size, 1, none⟩ = some (.int .i64 r) ∧ w.heap.size < w1.heap.size := by
  refine ⟨?_, ?_, ?_⟩
  · rw [hb.cell (p := ⟨w.heap.size, 0, none⟩) (by simp)]; simp
  · rw [hb.cell (p := ⟨w.heap.size, 1, none⟩) (by simp)]; simp
  · have := hb.size; simp at this; omega
/-- is x from a to b? -/
def inB (x a b : Int) : Bool := decide (a ≤ x ∧ x ≤ b)
theorem inB_yes {x a b : Int} (h1 : a ≤ x) (h2 : x ≤ b) : inB x a b = true := decide_eq_true ⟨h1, h2⟩
theorem inB_no {x a b : Int} (h : x < a ∨ b < x) : inB x a b = false := decide_eq_false (by omega)
theorem inB_or (x a b : Int) : (a ≤ x ∧ x ≤ b ∧ inB x a b = true) ∨ ((x < a ∨ b < x) ∧ inB x a b = false) := by
  by_cases h : a ≤ x ∧ x ≤ b
  · exact .inl ⟨h.1, h.2, inB_yes h.1 h.2⟩
  · exact .inr ⟨by omega, inB_no (by omega)⟩
/-- is it a size? -/
def szB (f r : Int) : Bool := decide (3 ≤ f ∧ f ≤ 8 ∧ 3 ≤ r ∧ r ≤ 8)
theorem szB_yes {f r : Int} (f0 : 3 ≤ f) (f1 : f ≤ 8) (r0 : 3 ≤ r) (r1 : r ≤ 8) : szB f r = true := decide_eq_true ⟨f0, f1, r0, r1⟩
theorem szB_out {f r : Int} (h : szB f r = true) : 3 ≤ f ∧ f ≤ 8 ∧ 3 ≤ r ∧ r ≤ 8 := of_decide_eq_true h
theorem szB_no {f r : Int} (h : (f < 3 ∨ 8 < f) ∨ (r < 3 ∨ 8 < r)) : szB f r = false := decide_eq_false (by omega)
theorem mul_bd {f r : Int} (f0 : 3 ≤ f) (f1 : f ≤ 8) (r0 : 3 ≤ r) (r1 : r ≤ 8) : 9 ≤ f * r ∧ f * r ≤ 64 := by
  have h1 : 3 * 3 ≤ f * r := Int.mul_le_mul f0 r0 (by omega) (by omega)
  have h2 : f * r ≤ 8 * 8 := Int.mul_le_mul f1 r1 (by omega) (by omega)
  omega
/-- is it a square of the board? -/
def sqB (f r a : Int) : Bool := szB f r && decide (0 ≤ a ∧ a < f * r)
theorem sqB_sz {f r a : Int} (h : szB f r = false) : sqB f r a = false := by unfold sqB; rw [h]; rfl
theorem sqB_in {f r a : Int} (h : szB f r = true) : sqB f r a = decide (0 ≤ a ∧ a < f * r) := by unfold sqB; rw [h]; rfl
theorem sqB_out {f r a : Int} (h : sqB f r a = true) : szB f r = true ∧ 0 ≤ a ∧ a < f * r := by
  unfold sqB at h
  rw [Bool.and_eq_true, decide_eq_true_eq] at h
  exact h
/-- are the file and the rank on the board? -/
def onB (f r x y : Int) : Bool := decide (0 ≤ x ∧ x < f ∧ 0 ≤ y ∧ y < r)
theorem pside (n : Int) (w : World) : Calls Tryd.prog 42 #[.int .i64 n] w fun e w' => e = .returned (.bool (inB n 3 8)) ∧ w = w' := by
  rcases inB_or n 3 8 with ⟨h0, h1, hb⟩ | ⟨h, hb⟩
  · have hbH := Lib.hid hb
    clear hb
    go_enter Tryd.func42, Tryd.ntmps42
    go_wp2
    go_ret
    exact ⟨by rw [hbH.out]; rfl, rfl⟩
  · have hbH := Lib.hid hb
    clear hb
    rcases (by omega : n < 3 ∨ (3 ≤ n ∧ 8 < n)) with h | ⟨h', h⟩
    all_goals
      go_enter Tryd.func42, Tryd.ntmps42
      go_wp2
      go_ret
      exact ⟨by rw [hbH.out]; first | rfl | exact rb (by simp; omega), rfl⟩
theorem pvsize (f r : Int) (w : World) : Calls Tryd.prog 28 #[.agg #[.int .i64 f, .int .i64 r]] w fun e w' => e = .returned (.bool (szB f r)) ∧ Below w.heap.size w w' := by
  rcases inB_or f 3 8 with ⟨f0, f1, hf⟩ | ⟨h, hf⟩
  · rcases inB_or r 3 8 with ⟨r0, r1, hr⟩ | ⟨h, hr⟩
    · have hs := Lib.hid (szB_yes f0 f1 r0 r1)
      go_enter Tryd.func28, Tryd.ntmps28
      go_wp2_with (go_at_call 42; refine (pside _ _).mono ?_; rintro e w' ⟨rfl, rfl⟩)
      go_ret
      exact ⟨by rw [hs.out]; rfl, (Below.refl _ _).alloc (Nat.le_refl _) _⟩
    · have hs := Lib.hid (szB_no (f := f) (r := r) (.inr h))
      go_enter Tryd.func28, Tryd.ntmps28
      go_wp2_with (go_at_call 42; refine (pside _ _).mono ?_; rintro e w' ⟨rfl, rfl⟩)
      go_ret
      exact ⟨by rw [hs.out]; rfl, (Below.refl _ _).alloc (Nat.le_refl _) _⟩
  · have hs := Lib.hid (szB_no (f := f) (r := r) (.inl h))
    go_enter Tryd.func28, Tryd.ntmps28
    go_wp2_with (go_at_call 42; refine (pside _ _).mono ?_; rintro e w' ⟨rfl, rfl⟩)
    go_ret
    exact ⟨by rw [hs.out]; rfl, (Below.refl _ _).alloc (Nat.le_refl _) _⟩
theorem rsize (f r : Int) (w : World) : Calls Tryd.prog 14 #[.agg #[.int .i64 f, .int .i64 r]] w fun e w' => e = .returned (.bool (szB f r)) ∧ Below w.heap.size w w' := by
  rcases (by omega : f < 3 ∨ (3 ≤ f ∧ 8 < f) ∨ (3 ≤ f ∧ f ≤ 8)) with h | ⟨h, h'⟩ | ⟨f0, f1⟩
  · have hs := Lib.hid (szB_no (f := f) (r := r) (.inl (.inl h)))
    go_enter Tryd.func14, Tryd.ntmps14
    go_wp2
    go_ret
    exact ⟨by rw [hs.out]; rfl, (Below.refl _ _).alloc (Nat.le_refl _) _⟩
  · have hs := Lib.hid (szB_no (f := f) (r := r) (.inl (.inr h')))
    go_enter Tryd.func14, Tryd.ntmps14
    go_wp2
    go_ret
    exact ⟨by rw [hs.out]; exact rb (by first | rfl | (simp; omega)), (Below.refl _ _).alloc (Nat.le_refl _) _⟩
  · rcases (by omega : r < 3 ∨ (3 ≤ r ∧ 8 < r) ∨ (3 ≤ r ∧ r ≤ 8)) with h | ⟨h, h'⟩ | ⟨r0, r1⟩
    · have hs := Lib.hid (szB_no (f := f) (r := r) (.inr (.inl h)))
      go_enter Tryd.func14, Tryd.ntmps14
      go_wp2
      go_ret
      exact ⟨by rw [hs.out]; exact rb (by first | rfl | (simp; omega)), (Below.refl _ _).alloc (Nat.le_refl _) _⟩
    · have hs := Lib.hid (szB_no (f := f) (r := r) (.inr (.inr h')))
      go_enter Tryd.func14, Tryd.ntmps14
      go_wp2
      go_ret
      exact ⟨by rw [hs.out]; exact rb (by first | rfl | (simp; omega)), (Below.refl _ _).alloc (Nat.le_refl _) _⟩
    · have hs := Lib.hid (szB_yes f0 f1 r0 r1)
      go_enter Tryd.func14, Tryd.ntmps14
      go_wp2
      go_ret
      exact ⟨by rw [hs.out]; exact rb (by first | rfl | (simp; omega)), (Below.refl _ _).alloc (Nat.le_refl _) _⟩
theorem pvalidsq (f r a : Int) (w : World) : Calls Tryd.prog 34 #[.agg #[.int .i64 f, .int .i64 r], .int .i64 a] w fun e w' => e = .returned (.bool (sqB f r a)) ∧ Below w.heap.size w w' := by
  cases hs : szB f r
  · have hq := Lib.hid (sqB_sz (a := a) hs)
    go_enter Tryd.func34, Tryd.ntmps34
    go_wp2_with (go_at_call 28; refine (pvsize _ _ _).mono ?_; rintro e w' ⟨rfl, hb⟩; obtain ⟨q0, q1, q2⟩ := box_cells hb; have hbH := Lib.hid (below_box hb); clear hb)
    go_ret
    exact ⟨by rw [hq.out]; rfl, hbH.out⟩
  · obtain ⟨f0, f1, r0, r1⟩ := szB_out hs
    obtain ⟨m0, m1⟩ := mul_bd f0 f1 r0 r1
    have hq := Lib.hid (sqB_in (a := a) hs)
    rcases (by omega : a < 0 ∨ (0 ≤ a ∧ a < f * r) ∨ (0 ≤ a ∧ f * r ≤ a)) with h | ⟨h, h'⟩ | ⟨h, h'⟩
    all_goals
      go_enter Tryd.func34, Tryd.ntmps34
      go_wp2_with (go_at_call 28; refine (pvsize _ _ _).mono ?_; rintro e w' ⟨rfl, hb⟩; obtain ⟨q0, q1, q2⟩ := box_cells hb; have hbH := Lib.hid (below_box hb); clear hb)
      go_ret
      exact ⟨by rw [hq.out]; exact rb (by first | rfl | (rw [decide_eq_decide]; omega) | (symm; simp; omega)), hbH.out⟩
theorem rvalidsq (f r a : Int) (w : World) : Calls Tryd.prog 26 #[.agg #[.int .i64 f, .int .i64 r], .int .i64 a] w fun e w' => e = .returned (.bool (sqB f r a)) ∧ Below w.heap.size w w' := by
  cases hs : szB f r
  · have hq := Lib.hid (sqB_sz (a := a) hs)
    go_enter Tryd.func26, Tryd.ntmps26
    go_wp2_with (go_at_call 14; refine (rsize _ _ _).mono ?_; rintro e w' ⟨rfl, hb⟩; obtain ⟨q0, q1, q2⟩ := box_cells hb; have hbH := Lib.hid (below_box hb); clear hb)
    go_ret
    exact ⟨by rw [hq.out]; rfl, hbH.out⟩
  · obtain ⟨f0, f1, r0, r1⟩ := szB_out hs
    obtain ⟨m0, m1⟩ := mul_bd f0 f1 r0 r1
    have hq := Lib.hid (sqB_in (a := a) hs)
    rcases (by omega : a < 0 ∨ (0 ≤ a ∧ a < f * r) ∨ (0 ≤ a ∧ f * r ≤ a)) with h | ⟨h, h'⟩ | ⟨h, h'⟩
    all_goals
      go_enter Tryd.func26, Tryd.ntmps26
      go_wp2_with (go_at_call 14; refine (rsize _ _ _).mono ?_; rintro e w' ⟨rfl, hb⟩; obtain ⟨q0, q1, q2⟩ := box_cells hb; have hbH := Lib.hid (below_box hb); clear hb)
      go_ret
      exact ⟨by rw [hq.out]; exact rb (by first | rfl | (rw [decide_eq_decide]; omega) | (symm; simp; omega)), hbH.out⟩
theorem pon (f r x y : Int) (w : World) : Calls Tryd.prog 43 #[.agg #[.int .i64 f, .int .i64 r], .int .i64 x, .int .i64 y] w fun e w' => e = .returned (.bool (onB f r x y)) ∧ Below w.heap.size w w' := by
  have ho : Hid (onB f r x y = decide (0 ≤ x ∧ x < f ∧ 0 ≤ y ∧ y < r)) := rfl
  rcases (by omega : x < 0 ∨ (0 ≤ x ∧ f ≤ x) ∨ (0 ≤ x ∧ x < f)) with h | ⟨h, h'⟩ | ⟨h, h'⟩
  · go_enter Tryd.func43, Tryd.ntmps43
    go_wp2
    go_ret
    exact ⟨by rw [ho.out]; exact rb (by first | rfl | (symm; simp; omega)), (Below.refl _ _).alloc (Nat.le_refl _) _⟩
  · go_enter Tryd.func43, Tryd.ntmps43
    go_wp2
    go_ret
    exact ⟨by rw [ho.out]; exact rb (by first | rfl | (symm; simp; omega)), (Below.refl _ _).alloc (Nat.le_refl _) _⟩
  · rcases (by omega : y < 0 ∨ (0 ≤ y ∧ r ≤ y) ∨ (0 ≤ y ∧ y < r)) with k | ⟨k, k'⟩ | ⟨k, k'⟩
    all_goals
      go_enter Tryd.func43, Tryd.ntmps43
      go_wp2
      go_ret
      exact ⟨by rw [ho.out]; exact rb (by first | rfl | (rw [decide_eq_decide]; omega) | (symm; rw [decide_eq_true_iff]; omega) | (symm; rw [decide_eq_false_iff_not]; omega)), (Below.refl _ _).alloc (Nat.le_refl _) _⟩
theorem place_bd {f r a : Int} (h : sqB f r a = true) : 0 ≤ a % f ∧ a % f < f ∧ 0 ≤ a / f ∧ a / f < r ∧ a % f + a / f * f = a := by
  obtain ⟨hs, h0, h1⟩ := sqB_out h
  obtain ⟨f0, f1, r0, r1⟩ := szB_out hs
  have e1 : 0 ≤ a % f := Int.emod_nonneg _ (by omega)
  have e2 : a % f < f := Int.emod_lt_of_pos _ (by omega)
  have e3 : 0 ≤ a / f := Int.ediv_nonneg h0 (by omega)
  have e4 : a / f < r := Int.ediv_lt_of_lt_mul (by omega) (by rw [Int.mul_comm]; exact h1)
  have e5 : a % f + a / f * f = a := by rw [Int.mul_comm]; exact Int.emod_add_mul_ediv a f
  exact ⟨e1, e2, e3, e4, e5⟩
theorem pplace_yes (f r a : Int) (w : World) (h : sqB f r a = true) : Calls Tryd.prog 39 #[.agg #[.int .i64 f, .int .i64 r], .int .i64 a] w fun e w' => e = .returned (.tuple #[.int .i64 (a % f), .int .i64 (a / f), .int .i64 0]) ∧ Below w.heap.size w w' := by
  obtain ⟨hs, h0, h1⟩ := sqB_out h
  obtain ⟨f0, f1, r0, r1⟩ := szB_out hs
  obtain ⟨m0, m1⟩ := mul_bd f0 f1 r0 r1
  have hf0 : (f == 0) = false := by rw [beq_eq_false_iff_ne]; omega
  have hbd := Lib.hid (place_bd h)
  have ht1 : a.tmod f = a % f := Int.tmod_eq_emod_of_nonneg h0
  have ht2 : a.tdiv f = a / f := Int.tdiv_eq_ediv_of_nonneg h0
  have d0 : 0 ≤ a / f := hbd.out.2.2.1
  have d1 : a / f < r := hbd.out.2.2.2.1
  have hw : IntKind.i64.wrap (a / f) = a / f := IntWalk.i64_in _ (by omega)
  go_enter Tryd.func39, Tryd.ntmps39
  go_wp2_with (go_at_call 34; refine (pvalidsq _ _ _ _).mono ?_; rintro e w' ⟨rfl, hb⟩; obtain ⟨q0, q1, q2⟩ := box_cells hb; have hbH := Lib.hid (below_box hb); clear hb)
  go_quiet (fail)
  go_wp2
  go_ret3
  exact ⟨rfl, by first | exact below_drewN hbH.out _ | exact hbH.out.drew⟩
theorem pplace_no (f r a : Int) (w : World) (h : sqB f r a = false) : Calls Tryd.prog 39 #[.agg #[.int .i64 f, .int .i64 r], .int .i64 a] w fun e w' => e = .returned (.tuple #[.int .i64 0, .int .i64 0, .int .i64 2]) ∧ Below w.heap.size w w' := by
  go_enter Tryd.func39, Tryd.ntmps39
  go_wp2_with (go_at_call 34; refine (pvalidsq _ _ _ _).mono ?_; rintro e w' ⟨rfl, hb⟩; obtain ⟨q0, q1, q2⟩ := box_cells hb; have hbH := Lib.hid (below_box hb); clear hb)
  go_ret3
  exact ⟨rfl, hbH.out⟩
/-- the colour -/
def lightB (f a : Int) : Bool := (a % f + a / f) % 2 == 1
/-- the greatest of four -/
def mx4 (x y z u : Int) : Int := max (max (max x y) z) u
theorem run_max_int4 {P : Program} {w : World} (ts : Array TypeId) (t : TypeId) (k k' k2 k3 : IntKind) (x y z u : Int) : (Builtin.max_ ts t #[.int k x, .int k' y, .int k2 z, .int k3 u]).run P w = .ok (.int k (mx4 x y z u)) w := by
  have e : mx4 x y z u = if u > (if z > (if y > x then y else x) then z else (if y > x then y else x)) then u else (if z > (if y > x then y else x) then z else (if y > x then y else x)) := by
    unfold mx4
    split <;> split <;> split <;> omega
  rw [e]
  simp [Builtin.max_, Builtin.max2]
attribute [local go_sem] run_max_int4
/-- the distance -/
def distV (f a b : Int) : Int := max (max (a % f - b % f) (b % f - a % f)) (max (a / f - b / f) (b / f - a / f))
/-- the number of a file and a rank -/
theorem at_bd {f r x y : Int} (hs : szB f r = true) (h : onB f r x y = true) : 0 ≤ x ∧ x < f ∧ 0 ≤ y ∧ y < r ∧ 0 ≤ y * f ∧ y * f ≤ 56 := by
  obtain ⟨f0, f1, r0, r1⟩ := szB_out hs
  have := of_decide_eq_true h
  obtain ⟨h0, h1, h2, h3⟩ := this
  have e1 : 0 ≤ y * f := Int.mul_nonneg h2 (by omega)
  have e2 : y * f ≤ 7 * 8 := Int.mul_le_mul (by omega) f1 (by omega) (by omega)
  exact ⟨h0, h1, h2, h3, e1, by omega⟩
attribute [local go_sem ↓] Go.wp_at_zero Go.wp_at_succ
/-- the byte of a number -/
def bx (n : Int) : UInt8 := UInt8.ofNat n.toNat
theorem bx_of {n : Int} (h0 : 0 ≤ n) (h1 : n < 256) : n = ((bx n).toNat : Int) := by
  unfold bx
  rw [UInt8.toNat_ofNat']
  omega
/-- the name of a file and a rank -/
def nm (x y : Int) : ByteArray := ⟨#[bx (97 + x), bx (49 + y)]⟩
theorem conv2 (w : World) (b c : UInt8) (n m : Int) (hn : n = (b.toNat : Int)) (hm : m = (c.toNat : Int)) : (convert 55 9 (.slice (some ⟨w.heap.size, 0, none⟩) 2 2)).run Tryd.prog (w.alloc (.cells #[.int .u8 n, .int .u8 m] 5)) = .ok (.string ⟨#[b, c]⟩) (w.alloc (.cells #[.int .u8 n, .int .u8 m] 5)) := by
  subst hn hm
  refine run_convert_bytes_back (P := Tryd.prog) (w.alloc (.cells #[.int .u8 (b.toNat : Int), .int .u8 (c.toNat : Int)] 5)) 55 9 5 ⟨w.heap.size, 0, none⟩ 2 [b, c] Tryd.underlying55 Tryd.underlying5 Tryd.underlying9 ?_
  intro j hj
  obtain rfl | rfl : j = 0 ∨ j = 1 := by simp at hj; omega
  · simp [Addr.add]
  · simp [Addr.add]
theorem pname_yes (f r a : Int) (w : World) (h : sqB f r a = true) : Calls Tryd.prog 24 #[.agg #[.int .i64 f, .int .i64 r], .int .i64 a] w fun e w' => e = .returned (.tuple #[.string (nm (a % f) (a / f)), .int .i64 0]) ∧ Below w.heap.size w w' := by
  obtain ⟨hs, h0, h1⟩ := sqB_out h
  obtain ⟨f0, f1, r0, r1⟩ := szB_out hs
  obtain ⟨d0, d1, d2, d3, d4⟩ := place_bd h
  have hcv := fun w : World => conv2 w _ _ _ _ (bx_of (n := 97 + a % f) (by omega) (by omega)) (bx_of (n := 49 + a / f) (by omega) (by omega))
  have hnm : Hid (nm (a % f) (a / f) = ⟨#[bx (97 + a % f), bx (49 + a / f)]⟩) := rfl
  clear d4
  go_enter Tryd.func24, Tryd.ntmps24
  go_wp2_with (go_at_call 39; refine (pplace_yes _ _ _ _ h).mono ?_; rintro e w' ⟨rfl, hb⟩; have hbH := Lib.hid (below_box hb); clear hb)
  go_ret2
  exact ⟨by rw [hnm.out]; rfl, hbH.out.alloc hbH.out.size _⟩
theorem pname_no (f r a : Int) (w : World) (h : sqB f r a = false) : Calls Tryd.prog 24 #[.agg #[.int .i64 f, .int .i64 r], .int .i64 a] w fun e w' => e = .returned (.tuple #[.string ⟨#[]⟩, .int .i64 2]) ∧ Below w.heap.size w w' := by
  go_enter Tryd.func24, Tryd.ntmps24
  go_wp2_with (go_at_call 39; refine (pplace_no _ _ _ _ h).mono ?_; rintro e w' ⟨rfl, hb⟩; have hbH := Lib.hid (below_box hb); clear hb)
  go_ret2
  exact ⟨rfl, hbH.out⟩
theorem below_2 (w : World) (o o' : Obj) : Below w.heap.size w ((w.alloc o).alloc o').drew := (((Below.refl _ _).alloc (Nat.le_refl _) o).alloc (by simp) o').drew
/-- the reference's place, a struct -/
theorem rplace (f r a : Int) (w : World) (h : sqB f r a = true) : Calls Tryd.prog 41 #[.agg #[.int .i64 f, .int .i64 r], .int .i64 a] w fun e w' => e = .returned (.agg #[.int .i64 (a % f), .int .i64 (a / f)]) ∧ Below w.heap.size w w' := by
  obtain ⟨hs, h0, h1⟩ := sqB_out h
  obtain ⟨f0, f1, r0, r1⟩ := szB_out hs
  obtain ⟨m0, m1⟩ := mul_bd f0 f1 r0 r1
  have hf0 : (f == 0) = false := by rw [beq_eq_false_iff_ne]; omega
  have hbd := Lib.hid (place_bd h)
  have ht1 : a.tmod f = a % f := Int.tmod_eq_emod_of_nonneg h0
  have ht2 : a.tdiv f = a / f := Int.tdiv_eq_ediv_of_nonneg h0
  have d0 : 0 ≤ a / f := hbd.out.2.2.1
  have d1 : a / f < r := hbd.out.2.2.2.1
  have hw : IntKind.i64.wrap (a / f) = a / f := IntWalk.i64_in _ (by omega)
  go_enter Tryd.func41, Tryd.ntmps41
  go_wp2
  go_region
  go_wp2
  exact bodyPost_ret (v := .agg #[.int .i64 (a % f), .int .i64 (a / f)]) (by simp [results, Tryd.results41, go_sem]) rfl ⟨rfl, below_2 w _ _⟩
theorem ext_a (x : Nat) (h : x < 8) : (ByteArray.mk #[97, 98, 99, 100, 101, 102, 103, 104]).extract x (x + 1) = ⟨#[bx (97 + (x : Int))]⟩ := by
  obtain rfl | rfl | rfl | rfl | rfl | rfl | rfl | rfl : x = 0 ∨ x = 1 ∨ x = 2 ∨ x = 3 ∨ x = 4 ∨ x = 5 ∨ x = 6 ∨ x = 7 := by omega
  all_goals rfl
theorem ext_1 (x : Nat) (h : x < 8) : (ByteArray.mk #[49, 50, 51, 52, 53, 54, 55, 56]).extract x (x + 1) = ⟨#[bx (49 + (x : Int))]⟩ := by
  obtain rfl | rfl | rfl | rfl | rfl | rfl | rfl | rfl : x = 0 ∨ x = 1 ∨ x = 2 ∨ x = 3 ∨ x = 4 ∨ x = 5 ∨ x = 6 ∨ x = 7 := by omega
  all_goals rfl
theorem nm_ext (x y : Nat) (hx : x < 8) (hy : y < 8) : (ByteArray.mk #[97, 98, 99, 100, 101, 102, 103, 104]).extract x (x + 1) ++ (ByteArray.mk #[49, 50, 51, 52, 53, 54, 55, 56]).extract y (y + 1) = nm x y := by
  rw [ext_a x hx, ext_1 y hy]
  rfl
theorem rs {a b : ByteArray} (h : a = b) : Ending.returned (.string a) = .returned (.string b) := by rw [h]
theorem rname_yes (f r a : Int) (w : World) (h : sqB f r a = true) : Calls Tryd.prog 27 #[.agg #[.int .i64 f, .int .i64 r], .int .i64 a] w fun e w' => e = .returned (.string (nm (a % f) (a / f))) ∧ Below w.heap.size w w' := by
  obtain ⟨hs, h0, h1⟩ := sqB_out h
  obtain ⟨f0, f1, r0, r1⟩ := szB_out hs
  obtain ⟨d0, d1, d2, d3, d4⟩ := place_bd h
  clear d4
  obtain ⟨x, hx⟩ : ∃ x : Nat, (x : Int) = a % f := ⟨(a % f).toNat, by omega⟩
  obtain ⟨y, hy⟩ : ∃ y : Nat, (y : Int) = a / f := ⟨(a / f).toNat, by omega⟩
  have hpl := Lib.hid (fun w : World => rplace f r a w h)
  rw [← hx] at d0 d1 hpl ⊢
  rw [← hy] at d2 d3 hpl ⊢
  have hxH := Lib.hid hx
  have hyH := Lib.hid hy
  clear hx hy
  go_enter Tryd.func27, Tryd.ntmps27
  go_wp2_with (go_at_call 41; refine (hpl.out _).mono ?_; rintro e w1 ⟨rfl, hb⟩; have hbH := Lib.hid (below_box hb); clear hb)
  go_quiet (fail)
  go_wp2
  go_ret
  exact ⟨rs (nm_ext x y (by omega) (by omega)), below_drewN (hbH.out.alloc hbH.out.size _) _⟩
theorem pparse_arg (f r : Int) (s : ByteArray) (w : World) (hs : szB f r = false) : Calls Tryd.prog 29 #[.agg #[.int .i64 f, .int .i64 r], .string s] w fun e w' => e = .returned (.tuple #[.int .i64 0, .int .i64 2]) ∧ Below w.heap.size w w' := by
  go_enter Tryd.func29, Tryd.ntmps29
  go_wp2_with (go_at_call 28; refine (pvsize _ _ _).mono ?_; rintro e w1 ⟨rfl, hb⟩; obtain ⟨q0, q1, q2⟩ := box_cells hb; have hbH := Lib.hid (below_box hb); clear hb)
  go_ret2
  exact ⟨rfl, hbH.out⟩
theorem pparse_len (f r : Int) (s : ByteArray) (w : World) (hs : szB f r = true) (hl : s.size ≠ 2) (hm : s.size ≤ maxLen) : Calls Tryd.prog 29 #[.agg #[.int .i64 f, .int .i64 r], .string s] w fun e w' => e = .returned (.tuple #[.int .i64 0, .int .i64 6]) ∧ Below w.heap.size w w' := by
  have hl2 : ((s.size : Int) != 2) = true := by simp; omega
  unfold maxLen at hm
  clear hl
  go_enter Tryd.func29, Tryd.ntmps29
  go_wp2_with (go_at_call 28; refine (pvsize _ _ _).mono ?_; rintro e w1 ⟨rfl, hb⟩; obtain ⟨q0, q1, q2⟩ := box_cells hb; have hbH := Lib.hid (below_box hb); clear hb)
  go_quiet (fail)
  go_wp2
  go_ret2
  exact ⟨rfl, by first | exact hbH.out | exact below_drewN hbH.out _⟩
set_option maxRecDepth 100000 in
set_option maxHeartbeats 1000000 in
theorem pparse_no (f r : Int) (s : ByteArray) (w : World) (hs : szB f r = true) (h0 : 0 < s.size) (h1 : 1 < s.size) (hl : s.size ≤ 2) (hob : onB f r (((s[0]'h0).toNat : Int) - 97) (((s[1]'h1).toNat : Int) - 49) = false) :
    Calls Tryd.prog 29 #[.agg #[.int .i64 f, .int .i64 r], .string s] w fun e w' => e = .returned (.tuple #[.int .i64 (0), .int .i64 6]) ∧ Below w.heap.size w w' := by
  have hl2 : ((s.size : Int) != 2) = false := by rw [bne_eq_false_iff_eq]; omega
  have g0 : ((s[0]'h0).toNat : Int) < 256 := by have := UInt8.toNat_lt (s[0]'h0); omega
  have g1 : ((s[1]'h1).toNat : Int) < 256 := by have := UInt8.toNat_lt (s[1]'h1); omega
  have hon := Lib.hid (fun w : World => pon f r (((s[0]'h0).toNat : Int) - 97) (((s[1]'h1).toNat : Int) - 49) w)
  obtain ⟨f0, f1, r0, r1⟩ := szB_out hs
  have hc0 : IntKind.i64.wrap ((s[0]'h0).toNat : Int) = ((s[0]'h0).toNat : Int) := IntWalk.i64_in _ (by omega)
  have hc1 : IntKind.i64.wrap ((s[1]'h1).toNat : Int) = ((s[1]'h1).toNat : Int) := IntWalk.i64_in _ (by omega)
  have hw0 : IntKind.i64.wrap (((s[0]'h0).toNat : Int) - 97) = ((s[0]'h0).toNat : Int) - 97 := IntWalk.i64_in _ (by omega)
  have hw1 : IntKind.i64.wrap (((s[1]'h1).toNat : Int) - 49) = ((s[1]'h1).toNat : Int) - 49 := IntWalk.i64_in _ (by omega)
  have hi0 : (0 : Int) < (s.size : Int) := by omega
  have hi1 : (1 : Int) < (s.size : Int) := by omega
  go_enter Tryd.func29, Tryd.ntmps29
  go_wp2_with (go_at_call 28; refine (pvsize _ _ _).mono ?_; rintro e w1 ⟨rfl, hb⟩; obtain ⟨q0, q1, q2⟩ := box_cells hb; have hbH := Lib.hid (below_box hb); clear hb)
  have hn1 := World.new_ne w1 ⟨w.heap.size, 0, none⟩ q0
  have hn2 := World.new_ne w1 ⟨w.heap.size, 1, none⟩ q1
  go_region_held3 (fun w' => w'.cell? ⟨w.heap.size, 0, none⟩ = some (.int .i64 f) ∧ w'.cell? ⟨w.heap.size, 1, none⟩ = some (.int .i64 r)) (first | go_keep | (go_split_ands; exact ⟨p0, p1⟩))
    (first | (go_at_call 43; refine (hon.out _).mono ?_; rintro e w2 ⟨rfl, hb2⟩; have p0 := (hb2.cell (p := ⟨w.heap.size, 0, none⟩) q2).trans q0; have p1 := (hb2.cell (p := ⟨w.heap.size, 1, none⟩) q2).trans q1; have hbH2 := Lib.hid (hbH.out.drew.trans (hb2.mono hbH.out.size)); clear hb2))
  all_goals
    go_wp2
    go_ret2
    exact ⟨rfl, hbH2.out⟩
set_option maxRecDepth 100000 in
set_option maxHeartbeats 1000000 in
theorem pparse_yes (f r : Int) (s : ByteArray) (w : World) (hs : szB f r = true) (h0 : 0 < s.size) (h1 : 1 < s.size) (hl : s.size ≤ 2) (hob : onB f r (((s[0]'h0).toNat : Int) - 97) (((s[1]'h1).toNat : Int) - 49) = true) :
    Calls Tryd.prog 29 #[.agg #[.int .i64 f, .int .i64 r], .string s] w fun e w' => e = .returned (.tuple #[.int .i64 (((s[0]'h0).toNat : Int) - 97 + (((s[1]'h1).toNat : Int) - 49) * f), .int .i64 0]) ∧ Below w.heap.size w w' := by
  have hl2 : ((s.size : Int) != 2) = false := by rw [bne_eq_false_iff_eq]; omega
  have g0 : ((s[0]'h0).toNat : Int) < 256 := by have := UInt8.toNat_lt (s[0]'h0); omega
  have g1 : ((s[1]'h1).toNat : Int) < 256 := by have := UInt8.toNat_lt (s[1]'h1); omega
  have hon := Lib.hid (fun w : World => pon f r (((s[0]'h0).toNat : Int) - 97) (((s[1]'h1).toNat : Int) - 49) w)
  obtain ⟨f0, f1, r0, r1⟩ := szB_out hs
  have hc0 : IntKind.i64.wrap ((s[0]'h0).toNat : Int) = ((s[0]'h0).toNat : Int) := IntWalk.i64_in _ (by omega)
  have hc1 : IntKind.i64.wrap ((s[1]'h1).toNat : Int) = ((s[1]'h1).toNat : Int) := IntWalk.i64_in _ (by omega)
  have hw0 : IntKind.i64.wrap (((s[0]'h0).toNat : Int) - 97) = ((s[0]'h0).toNat : Int) - 97 := IntWalk.i64_in _ (by omega)
  have hw1 : IntKind.i64.wrap (((s[1]'h1).toNat : Int) - 49) = ((s[1]'h1).toNat : Int) - 49 := IntWalk.i64_in _ (by omega)
  have hi0 : (0 : Int) < (s.size : Int) := by omega
  have hi1 : (1 : Int) < (s.size : Int) := by omega
  obtain ⟨d0, d1, d2, d3, d4, d5⟩ := at_bd hs hob
  have hw4 : IntKind.i64.wrap ((((s[1]'h1).toNat : Int) - 49) * f) = (((s[1]'h1).toNat : Int) - 49) * f := IntWalk.i64_in _ (by omega)
  have hw5 : IntKind.i64.wrap (((s[0]'h0).toNat : Int) - 97 + (((s[1]'h1).toNat : Int) - 49) * f) = ((s[0]'h0).toNat : Int) - 97 + (((s[1]'h1).toNat : Int) - 49) * f := IntWalk.i64_in _ (by omega)
  go_enter Tryd.func29, Tryd.ntmps29
  go_wp2_with (go_at_call 28; refine (pvsize _ _ _).mono ?_; rintro e w1 ⟨rfl, hb⟩; obtain ⟨q0, q1, q2⟩ := box_cells hb; have hbH := Lib.hid (below_box hb); clear hb)
  have hn1 := World.new_ne w1 ⟨w.heap.size, 0, none⟩ q0
  have hn2 := World.new_ne w1 ⟨w.heap.size, 1, none⟩ q1
  go_region_held3 (fun w' => w'.cell? ⟨w.heap.size, 0, none⟩ = some (.int .i64 f) ∧ w'.cell? ⟨w.heap.size, 1, none⟩ = some (.int .i64 r)) (first | go_keep | (go_split_ands; exact ⟨p0, p1⟩))
    (first | (go_at_call 43; refine (hon.out _).mono ?_; rintro e w2 ⟨rfl, hb2⟩; have p0 := (hb2.cell (p := ⟨w.heap.size, 0, none⟩) q2).trans q0; have p1 := (hb2.cell (p := ⟨w.heap.size, 1, none⟩) q2).trans q1; have hbH2 := Lib.hid (hbH.out.drew.trans (hb2.mono hbH.out.size)); clear hb2))
  all_goals
    go_wp2
    go_quiet (fail)
    go_wp2
    go_ret2
    exact ⟨rfl, by first | exact below_drewN hbH2.out _ | exact hbH2.out⟩
theorem bx_inj {a b : Int} (a0 : 0 ≤ a) (a1 : a < 256) (b0 : 0 ≤ b) (b1 : b < 256) (h : bx a = bx b) : a = b := by
  rw [bx_of a0 a1, bx_of b0 b1, h]
theorem nm_inj {x y x' y' : Int} (hx : 0 ≤ x ∧ x < 8) (hy : 0 ≤ y ∧ y < 8) (hx' : 0 ≤ x' ∧ x' < 8) (hy' : 0 ≤ y' ∧ y' < 8) (h : nm x y = nm x' y') : x = x' ∧ y = y' := by
  unfold nm at h
  injection h with h
  have h1 : bx (97 + x) = bx (97 + x') := by
    have := congrArg (fun a : Array UInt8 => a[0]?) h
    simpa using this
  have h2 : bx (49 + y) = bx (49 + y') := by
    have := congrArg (fun a : Array UInt8 => a[1]?) h
    simpa using this
  have e1 := bx_inj (by omega) (by omega) (by omega) (by omega) h1
  have e2 := bx_inj (by omega) (by omega) (by omega) (by omega) h2
  omega
theorem nm_sq {f r a b : Int} (ha : sqB f r a = true) (hb : sqB f r b = true) (h : nm (a % f) (a / f) = nm (b % f) (b / f)) : a = b := by
  obtain ⟨f0, f1, r0, r1⟩ := szB_out (sqB_out ha).1
  obtain ⟨a1, a2, a3, a4, a5⟩ := place_bd ha
  obtain ⟨b1, b2, b3, b4, b5⟩ := place_bd hb
  obtain ⟨e1, e2⟩ := nm_inj ⟨a1, by omega⟩ ⟨a3, by omega⟩ ⟨b1, by omega⟩ ⟨b3, by omega⟩ h
  rw [← a5, ← b5, e1, e2]
theorem list_eq {a b : ByteArray} (h : a.toList = b.toList) : a = b := by
  rw [ByteArray.toList_eq, ByteArray.toList_eq] at h
  obtain ⟨⟨a⟩⟩ := a
  obtain ⟨⟨b⟩⟩ := b
  simp only at h
  rw [h]
theorem list_ne {a b : ByteArray} (h : a ≠ b) : (a.toList == b.toList) = false := by
  rw [beq_eq_false_iff_ne]
  exact fun e => h (list_eq e)
set_option maxHeartbeats 1000000 in
theorem rparse_yes (f r n : Int) (s : ByteArray) (w : World) (hs : sqB f r n = true) (hn : nm (n % f) (n / f) = s) : Calls Tryd.prog 31 #[.agg #[.int .i64 f, .int .i64 r], .string s] w fun e w' => e = .returned (.int .i64 n) ∧ Below w.heap.size w w' := by
  obtain ⟨hz, n0, n1⟩ := sqB_out hs
  obtain ⟨f0, f1, r0, r1⟩ := szB_out hz
  obtain ⟨m0, m1⟩ := mul_bd f0 f1 r0 r1
  have hne : Hid (∀ k : Int, sqB f r k = true → k ≠ n → ((nm (k % f) (k / f)).toList == s.toList) = false) := fun k hk hkn => list_ne (fun e => hkn (nm_sq hk hs (e.trans hn.symm)))
  have heq : Hid (((nm (n % f) (n / f)).toList == s.toList) = true) := by unfold Hid; rw [hn]; simp
  have hsH := Lib.hid hs
  clear hn hs
  go_enter Tryd.func31, Tryd.ntmps31
  go_wp2
  go_loopw [5] (fun i wr => ∃ k : Int, 0 ≤ k ∧ k ≤ n ∧ i = .int .i64 k ∧ wr.cell? ⟨w.heap.size, 0, none⟩ = some (.int .i64 f) ∧ wr.cell? ⟨w.heap.size, 1, none⟩ = some (.int .i64 r) ∧ w.heap.size < wr.heap.size ∧ Hid (Below w.heap.size w wr)) (fun i _ => (n - intOf i).toNat)
  case atStart => exact ⟨0, by omega, by omega, rfl, by simp, by simp, by simp, (Below.refl _ _).alloc (Nat.le_refl _) _⟩
  case round =>
    obtain ⟨k, k0, k1, rfl, c0, c1, hsz, hbH⟩ := hrel
    have hsk : sqB f r k = true := by rw [sqB_in hz]; exact decide_eq_true ⟨k0, by omega⟩
    have hskH := Lib.hid hsk
    clear hsk
    by_cases hk : k = n
    · subst hk
      have hb := heq.out
      go_wp2_with (go_at_call 27; refine (rname_yes _ _ _ _ hskH.out).mono ?_; rintro e w1 ⟨rfl, hb1⟩; have hbH1 := Lib.hid (hbH.out.trans (hb1.mono hbH.out.size)); clear hb1)
      go_ret
      exact ⟨rfl, hbH1.out⟩
    · have hb := hne.out k hskH.out hk
      have hlt : k < n := by omega
      clear hk
      go_wp2_with (go_at_call 27; refine (rname_yes _ _ _ _ hskH.out).mono ?_; rintro e w1 ⟨rfl, hb1⟩; have hbH1 := Lib.hid (hbH.out.trans (hb1.mono hbH.out.size)); have d0 := (hb1.cell (p := ⟨w.heap.size, 0, none⟩) hsz).trans c0; have d1 := (hb1.cell (p := ⟨w.heap.size, 1, none⟩) hsz).trans c1; have hsz1 := Nat.lt_of_lt_of_le hsz hb1.size; clear hb1)
      go_roundw
      case rel => exact ⟨k + 1, by omega, by omega, rfl, d0, d1, hsz1, hbH1⟩
      case measure => simp [intOf]; omega
set_option maxHeartbeats 1000000 in
theorem rparse_no (f r : Int) (s : ByteArray) (w : World) (hz : szB f r = true) (hn : ∀ k : Int, sqB f r k = true → nm (k % f) (k / f) ≠ s) : Calls Tryd.prog 31 #[.agg #[.int .i64 f, .int .i64 r], .string s] w fun e w' => e = .returned (.int .i64 (-1)) ∧ Below w.heap.size w w' := by
  obtain ⟨f0, f1, r0, r1⟩ := szB_out hz
  obtain ⟨m0, m1⟩ := mul_bd f0 f1 r0 r1
  have hne : Hid (∀ k : Int, sqB f r k = true → ((nm (k % f) (k / f)).toList == s.toList) = false) := fun k hk => list_ne (hn k hk)
  clear hn
  go_enter Tryd.func31, Tryd.ntmps31
  go_wp2
  go_loopw [5] (fun i wr => ∃ k : Int, 0 ≤ k ∧ k ≤ f * r ∧ i = .int .i64 k ∧ wr.cell? ⟨w.heap.size, 0, none⟩ = some (.int .i64 f) ∧ wr.cell? ⟨w.heap.size, 1, none⟩ = some (.int .i64 r) ∧ w.heap.size < wr.heap.size ∧ Hid (Below w.heap.size w wr)) (fun i _ => (f * r - intOf i).toNat)
  case atStart => exact ⟨0, by omega, by omega, rfl, by simp, by simp, by simp, (Below.refl _ _).alloc (Nat.le_refl _) _⟩
  case round =>
    obtain ⟨k, k0, k1, rfl, c0, c1, hsz, hbH⟩ := hrel
    by_cases hk : k < f * r
    · have hsk : sqB f r k = true := by rw [sqB_in hz]; exact decide_eq_true ⟨k0, by omega⟩
      have hskH := Lib.hid hsk
      have hb := hne.out k hsk
      clear hsk
      go_wp2_with (go_at_call 27; refine (rname_yes _ _ _ _ hskH.out).mono ?_; rintro e w1 ⟨rfl, hb1⟩; have hbH1 := Lib.hid (hbH.out.trans (hb1.mono hbH.out.size)); have d0 := (hb1.cell (p := ⟨w.heap.size, 0, none⟩) hsz).trans c0; have d1 := (hb1.cell (p := ⟨w.heap.size, 1, none⟩) hsz).trans c1; have hsz1 := Nat.lt_of_lt_of_le hsz hb1.size; clear hb1)
      go_roundw
      case rel => exact ⟨k + 1, by omega, by omega, rfl, d0, d1, hsz1, hbH1⟩
      case measure => simp [intOf]; omega
    · go_wp2
      go_ret
      exact ⟨rfl, hbH.out⟩
theorem onB_out {f r x y : Int} (h : onB f r x y = true) : 0 ≤ x ∧ x < f ∧ 0 ≤ y ∧ y < r := by
  simpa [onB, and_assoc] using h
theorem mul_bd2 {f r x y : Int} (f0 : 3 ≤ f) (f1 : f ≤ 8) (r0 : 3 ≤ r) (r1 : r ≤ 8) (h0 : 0 ≤ x) (h1 : x < f) (h2 : 0 ≤ y) (h3 : y < r) : (0 ≤ y * f ∧ y * f ≤ 56) ∧ 0 ≤ x + y * f ∧ x + y * f < f * r := by
  have e1 : 0 ≤ y * f := Int.mul_nonneg h2 (by omega)
  have e2 : y * f ≤ (r - 1) * f := Int.mul_le_mul_of_nonneg_right (by omega) (by omega)
  have e3 : (r - 1) * f = r * f - f := by rw [Int.sub_mul]; omega
  have e4 : r * f = f * r := Int.mul_comm _ _
  have e5 : (r - 1) * f ≤ 7 * 8 := Int.mul_le_mul (by omega) f1 (by omega) (by omega)
  refine ⟨⟨e1, by omega⟩, by omega, by omega⟩
/-- the box of the size lies in W as it lay -/
structure BK (f r : Int) (w W : World) : Prop where
  c0 : W.cell? ⟨w.heap.size, 0, none⟩ = some (.int .i64 f)
  c1 : W.cell? ⟨w.heap.size, 1, none⟩ = some (.int .i64 r)
  lt : w.heap.size < W.heap.size
  below : Below w.heap.size w W
theorem BK.first (f r : Int) (w : World) (t : TypeId) : BK f r w (w.alloc (.cells #[.int .i64 f, .int .i64 r] t)) :=
  ⟨by simp, by simp, by simp, (Below.refl _ _).alloc (Nat.le_refl _) _⟩
theorem BK.next {f r : Int} {w W W' : World} (h : BK f r w W) (hb : Below W.heap.size W W') : BK f r w W' :=
  ⟨(hb.cell (p := ⟨w.heap.size, 0, none⟩) h.lt).trans h.c0, (hb.cell (p := ⟨w.heap.size, 1, none⟩) h.lt).trans h.c1, Nat.lt_of_lt_of_le h.lt hb.size, h.below.trans (hb.mono h.below.size)⟩
theorem two_of {s : ByteArray} (h0 : 0 < s.size) (h1 : 1 < s.size) (hl : s.size ≤ 2) : s = ⟨#[s[0]'h0, s[1]'h1]⟩ := by
  obtain ⟨⟨l⟩⟩ := s
  have h2 : l.length = 2 := Nat.le_antisymm hl h1
  match l, h2 with
  | [a, b], _ => rfl
theorem nm_of (b c : UInt8) : nm ((b.toNat : Int) - 97) ((c.toNat : Int) - 49) = ⟨#[b, c]⟩ := by
  unfold nm bx
  rw [show (97 + ((b.toNat : Int) - 97)).toNat = b.toNat by omega, show (49 + ((c.toNat : Int) - 49)).toNat = c.toNat by omega, UInt8.ofNat_toNat, UInt8.ofNat_toNat]
theorem nm_out {x y : Int} {s : ByteArray} (h0 : 0 < s.size) (h1 : 1 < s.size) (hx : 0 ≤ x ∧ x < 8) (hy : 0 ≤ y ∧ y < 8) (h : nm x y = s) : x = ((s[0]'h0).toNat : Int) - 97 ∧ y = ((s[1]'h1).toNat : Int) - 49 := by
  subst h
  have e0 := bx_of (n := 97 + x) (by omega) (by omega)
  have e1 := bx_of (n := 49 + y) (by omega) (by omega)
  exact ⟨by show x = ((bx (97 + x)).toNat : Int) - 97; omega, by show y = ((bx (49 + y)).toNat : Int) - 49; omega⟩
theorem on_sq {f r x y : Int} (hs : szB f r = true) (h : onB f r x y = true) : sqB f r (x + y * f) = true ∧ (x + y * f) % f = x ∧ (x + y * f) / f = y := by
  obtain ⟨o0, o1, o2, o3⟩ := onB_out h
  obtain ⟨f0, f1, r0, r1⟩ := szB_out hs
  obtain ⟨_, b0, b1⟩ := mul_bd2 f0 f1 r0 r1 o0 o1 o2 o3
  refine ⟨?_, ?_, ?_⟩
  · rw [sqB_in hs]; exact decide_eq_true ⟨b0, b1⟩
  · rw [Int.add_mul_emod_self_right, Int.emod_eq_of_lt o0 o1]
  · rw [Int.add_mul_ediv_right _ _ (by omega), Int.ediv_eq_zero_of_lt o0 o1, Int.zero_add]
theorem sq_on {f r a : Int} (h : sqB f r a = true) : onB f r (a % f) (a / f) = true := by
  obtain ⟨d0, d1, d2, d3, _⟩ := place_bd h
  exact decide_eq_true ⟨d0, d1, d2, d3⟩
theorem pparse_nm (f r a : Int) (w : World) (ha : sqB f r a = true) : Calls Tryd.prog 29 #[.agg #[.int .i64 f, .int .i64 r], .string (nm (a % f) (a / f))] w fun e w' => e = .returned (.tuple #[.int .i64 a, .int .i64 0]) ∧ Below w.heap.size w w' := by
  have hs := (sqB_out ha).1
  obtain ⟨f0, f1, r0, r1⟩ := szB_out hs
  obtain ⟨d0, d1, d2, d3, d4⟩ := place_bd ha
  have h0 : 0 < (nm (a % f) (a / f)).size := Nat.zero_lt_succ 1
  have h1 : 1 < (nm (a % f) (a / f)).size := Nat.lt_succ_self 1
  obtain ⟨e0, e1⟩ := nm_out h0 h1 ⟨d0, by omega⟩ ⟨d2, by omega⟩ rfl
  have h := pparse_yes f r (nm (a % f) (a / f)) w hs h0 h1 (Nat.le_refl 2) (by rw [← e0, ← e1]; exact sq_on ha)
  have g0 : (((nm (a % f) (a / f))[0]'h0).toNat : Int) = a % f + 97 := by omega
  have g1 : (((nm (a % f) (a / f))[1]'h1).toNat : Int) = a / f + 49 := by omega
  have hv : a % f + 97 - ((97 : Nat) : Int) + (a / f + 49 - 49) * f = a := by
    rw [show a / f + 49 - 49 = a / f by omega]; omega
  rw [g0, g1, hv] at h
  exact h
end Go.Proofs.YtlnphcdanadaeaaDoor
