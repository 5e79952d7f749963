/- Contracts of functions that another seat has proved already, over this program: XMsq. -/
import Derived.WalkKit
import Derived.ProofKit
import Derived.Below
import Derived.Lib.Hide
import Derived.WalkSpells
import Derived.WalkLawsBesides
import Derived.Deep.QuietTactic
import Derived.BigQuiet
import Derived.Deep.Draws
import Derived.Outline
import Derived.Deep.RegionHeld3
import Derived.Deep.DrawnRows
import Derived.BigRegion
import Derived.Test.YteaclphankckiaaProg
import Derived.Test.YteaclphankckiaaO1
namespace Go.Proofs.Yteaclphankckiaa
open Go.RowKit
set_option linter.unusedSimpArgs false
set_option linter.unusedVariables false
theorem ri {k : IntKind} {a b : Int} (h : a = b) : Ending.returned (.int k a) = .returned (.int k b) := by rw [h]
theorem rb {a b : Bool} (h : a = b) : Ending.returned (.bool a) = .returned (.bool b) := by rw [h]
theorem vi {k : IntKind} {a b : Int} (h : a = b) : Value.int k a = .int k b := by rw [h]
theorem vb {a b : Bool} (h : a = b) : Value.bool a = .bool b := by rw [h]
theorem below_drewN {B : Nat} {a w : World} (h : Below B a w) (n : Nat) : Below B a (w.drewN n) := ⟨h.os, h.tape, h.output, h.size, h.block⟩
/-- what a call made behind one new block: nothing that was there has turned -/
theorem below_box {w w1 : World} {o : Obj} (hb : Below (w.alloc o).heap.size (w.alloc o) w1) : Below w.heap.size w w1 :=
  ((Below.refl _ _).alloc (Nat.le_refl _) _).trans (hb.mono (by simp))
/-- the two cells of a size that was boxed lie behind a call as they lay -/
theorem box_cells {w w1 : World} {f r : Int} {t : TypeId} (hb : Below (w.alloc (.cells #[.int .i64 f, .int .i64 r] t)).heap.size (w.alloc (.cells #[.int .i64 f, .int .i64 r] t)) w1) :
    w1.cell? ⟨w.heap.size, 0, none⟩ = some (.int .i64 f) ∧ w1.cell? ⟨w.heap.size, 1, none⟩ = some (.int .i64 r) ∧ w.heap.size < w1.heap.size := by
  refine ⟨?_, ?_, ?_⟩
  · rw [hb.cell (p := ⟨w.heap.size, 0, none⟩) (by simp)]; simp
  · rw [hb.cell (p := ⟨w.heap.size, 1, none⟩) (by simp)]; simp
  · have := hb.size; simp at this; omega
/-- is x from a to b? -/
def inB (x a b : Int) : Bool := decide (a ≤ x ∧ x ≤ b)
theorem inB_yes {x a b : Int} (h1 : a ≤ x) (h2 : x ≤ b) : inB x a b = true := decide_eq_true ⟨h1, h2⟩
theorem inB_no {x a b : Int} (h : x < a ∨ b < x) : inB x a b = false := decide_eq_false (by omega)
theorem inB_or (x a b : Int) : (a ≤ x ∧ x ≤ b ∧ inB x a b = true) ∨ ((x < a ∨ b < x) ∧ inB x a b = false) := by
  by_cases h : a ≤ x ∧ x ≤ b
  · exact .inl ⟨h.1, h.2, inB_yes h.1 h.2⟩
  · exact .inr ⟨by omega, inB_no (by omega)⟩
/-- is it a size? -/
def szB (f r : Int) : Bool := decide (3 ≤ f ∧ f ≤ 8 ∧ 3 ≤ r ∧ r ≤ 8)
theorem szB_yes {f r : Int} (f0 : 3 ≤ f) (f1 : f ≤ 8) (r0 : 3 ≤ r) (r1 : r ≤ 8) : szB f r = true := decide_eq_true ⟨f0, f1, r0, r1⟩
theorem szB_out {f r : Int} (h : szB f r = true) : 3 ≤ f ∧ f ≤ 8 ∧ 3 ≤ r ∧ r ≤ 8 := of_decide_eq_true h
theorem szB_no {f r : Int} (h : (f < 3 ∨ 8 < f) ∨ (r < 3 ∨ 8 < r)) : szB f r = false := decide_eq_false (by omega)
theorem mul_bd {f r : Int} (f0 : 3 ≤ f) (f1 : f ≤ 8) (r0 : 3 ≤ r) (r1 : r ≤ 8) : 9 ≤ f * r ∧ f * r ≤ 64 := by
  have h1 : 3 * 3 ≤ f * r := Int.mul_le_mul f0 r0 (by omega) (by omega)
  have h2 : f * r ≤ 8 * 8 := Int.mul_le_mul f1 r1 (by omega) (by omega)
  omega
/-- is it a square of the board? -/
def sqB (f r a : Int) : Bool := szB f r && decide (0 ≤ a ∧ a < f * r)
theorem sqB_sz {f r a : Int} (h : szB f r = false) : sqB f r a = false := by unfold sqB; rw [h]; rfl
theorem sqB_in {f r a : Int} (h : szB f r = true) : sqB f r a = decide (0 ≤ a ∧ a < f * r) := by unfold sqB; rw [h]; rfl
theorem sqB_out {f r a : Int} (h : sqB f r a = true) : szB f r = true ∧ 0 ≤ a ∧ a < f * r := by
  unfold sqB at h
  rw [Bool.and_eq_true, decide_eq_true_eq] at h
  exact h
/-- are the file and the rank on the board? -/
def onB (f r x y : Int) : Bool := decide (0 ≤ x ∧ x < f ∧ 0 ≤ y ∧ y < r)
theorem pside (n : Int) (w : World) : Calls Try.prog 65 #[.int .i64 n] w fun e w' => e = .returned (.bool (inB n 3 8)) ∧ w = w' := by
  rcases inB_or n 3 8 with ⟨h0, h1, hb⟩ | ⟨h, hb⟩
  · have hbH := Lib.hid hb
    clear hb
    go_enter Try.func65, Try.ntmps65
    go_wp2
    go_ret
    exact ⟨by rw [hbH.out]; rfl, rfl⟩
  · have hbH := Lib.hid hb
    clear hb
    rcases (by omega : n < 3 ∨ (3 ≤ n ∧ 8 < n)) with h | ⟨h', h⟩
    all_goals
      go_enter Try.func65, Try.ntmps65
      go_wp2
      go_ret
      exact ⟨by rw [hbH.out]; first | rfl | exact rb (by simp; omega), rfl⟩
theorem pvsize (f r : Int) (w : World) : Calls Try.prog 59 #[.agg #[.int .i64 f, .int .i64 r]] w fun e w' => e = .returned (.bool (szB f r)) ∧ Below w.heap.size w w' := by
  rcases inB_or f 3 8 with ⟨f0, f1, hf⟩ | ⟨h, hf⟩
  · rcases inB_or r 3 8 with ⟨r0, r1, hr⟩ | ⟨h, hr⟩
    · have hs := Lib.hid (szB_yes f0 f1 r0 r1)
      go_enter Try.func59, Try.ntmps59
      go_wp2_with (go_at_call 65; refine (pside _ _).mono ?_; rintro e w' ⟨rfl, rfl⟩)
      go_ret
      exact ⟨by rw [hs.out]; rfl, (Below.refl _ _).alloc (Nat.le_refl _) _⟩
    · have hs := Lib.hid (szB_no (f := f) (r := r) (.inr h))
      go_enter Try.func59, Try.ntmps59
      go_wp2_with (go_at_call 65; refine (pside _ _).mono ?_; rintro e w' ⟨rfl, rfl⟩)
      go_ret
      exact ⟨by rw [hs.out]; rfl, (Below.refl _ _).alloc (Nat.le_refl _) _⟩
  · have hs := Lib.hid (szB_no (f := f) (r := r) (.inl h))
    go_enter Try.func59, Try.ntmps59
    go_wp2_with (go_at_call 65; refine (pside _ _).mono ?_; rintro e w' ⟨rfl, rfl⟩)
    go_ret
    exact ⟨by rw [hs.out]; rfl, (Below.refl _ _).alloc (Nat.le_refl _) _⟩
theorem rsize (f r : Int) (w : World) : Calls Try.prog 55 #[.agg #[.int .i64 f, .int .i64 r]] w fun e w' => e = .returned (.bool (szB f r)) ∧ Below w.heap.size w w' := by
  rcases (by omega : f < 3 ∨ (3 ≤ f ∧ 8 < f) ∨ (3 ≤ f ∧ f ≤ 8)) with h | ⟨h, h'⟩ | ⟨f0, f1⟩
  · have hs := Lib.hid (szB_no (f := f) (r := r) (.inl (.inl h)))
    go_enter Try.func55, Try.ntmps55
    go_wp2
    go_ret
    exact ⟨by rw [hs.out]; rfl, (Below.refl _ _).alloc (Nat.le_refl _) _⟩
  · have hs := Lib.hid (szB_no (f := f) (r := r) (.inl (.inr h')))
    go_enter Try.func55, Try.ntmps55
    go_wp2
    go_ret
    exact ⟨by rw [hs.out]; exact rb (by first | rfl | (simp; omega)), (Below.refl _ _).alloc (Nat.le_refl _) _⟩
  · rcases (by omega : r < 3 ∨ (3 ≤ r ∧ 8 < r) ∨ (3 ≤ r ∧ r ≤ 8)) with h | ⟨h, h'⟩ | ⟨r0, r1⟩
    · have hs := Lib.hid (szB_no (f := f) (r := r) (.inr (.inl h)))
      go_enter Try.func55, Try.ntmps55
      go_wp2
      go_ret
      exact ⟨by rw [hs.out]; exact rb (by first | rfl | (simp; omega)), (Below.refl _ _).alloc (Nat.le_refl _) _⟩
    · have hs := Lib.hid (szB_no (f := f) (r := r) (.inr (.inr h')))
      go_enter Try.func55, Try.ntmps55
      go_wp2
      go_ret
      exact ⟨by rw [hs.out]; exact rb (by first | rfl | (simp; omega)), (Below.refl _ _).alloc (Nat.le_refl _) _⟩
    · have hs := Lib.hid (szB_yes f0 f1 r0 r1)
      go_enter Try.func55, Try.ntmps55
      go_wp2
      go_ret
      exact ⟨by rw [hs.out]; exact rb (by first | rfl | (simp; omega)), (Below.refl _ _).alloc (Nat.le_refl _) _⟩
theorem pvalidsq (f r a : Int) (w : World) : Calls Try.prog 53 #[.agg #[.int .i64 f, .int .i64 r], .int .i64 a] w fun e w' => e = .returned (.bool (sqB f r a)) ∧ Below w.heap.size w w' := by
  cases hs : szB f r
  · have hq := Lib.hid (sqB_sz (a := a) hs)
    go_enter Try.func53, Try.ntmps53
    go_wp2_with (go_at_call 59; refine (pvsize _ _ _).mono ?_; rintro e w' ⟨rfl, hb⟩; obtain ⟨q0, q1, q2⟩ := box_cells hb; have hbH := Lib.hid (below_box hb); clear hb)
    go_ret
    exact ⟨by rw [hq.out]; rfl, hbH.out⟩
  · obtain ⟨f0, f1, r0, r1⟩ := szB_out hs
    obtain ⟨m0, m1⟩ := mul_bd f0 f1 r0 r1
    have hq := Lib.hid (sqB_in (a := a) hs)
    rcases (by omega : a < 0 ∨ (0 ≤ a ∧ a < f * r) ∨ (0 ≤ a ∧ f * r ≤ a)) with h | ⟨h, h'⟩ | ⟨h, h'⟩
    all_goals
      go_enter Try.func53, Try.ntmps53
      go_wp2_with (go_at_call 59; refine (pvsize _ _ _).mono ?_; rintro e w' ⟨rfl, hb⟩; obtain ⟨q0, q1, q2⟩ := box_cells hb; have hbH := Lib.hid (below_box hb); clear hb)
      go_ret
      exact ⟨by rw [hq.out]; exact rb (by first | rfl | (rw [decide_eq_decide]; omega) | (symm; simp; omega)), hbH.out⟩
theorem rvalidsq (f r a : Int) (w : World) : Calls Try.prog 64 #[.agg #[.int .i64 f, .int .i64 r], .int .i64 a] w fun e w' => e = .returned (.bool (sqB f r a)) ∧ Below w.heap.size w w' := by
  cases hs : szB f r
  · have hq := Lib.hid (sqB_sz (a := a) hs)
    go_enter Try.func64, Try.ntmps64
    go_wp2_with (go_at_call 55; refine (rsize _ _ _).mono ?_; rintro e w' ⟨rfl, hb⟩; obtain ⟨q0, q1, q2⟩ := box_cells hb; have hbH := Lib.hid (below_box hb); clear hb)
    go_ret
    exact ⟨by rw [hq.out]; rfl, hbH.out⟩
  · obtain ⟨f0, f1, r0, r1⟩ := szB_out hs
    obtain ⟨m0, m1⟩ := mul_bd f0 f1 r0 r1
    have hq := Lib.hid (sqB_in (a := a) hs)
    rcases (by omega : a < 0 ∨ (0 ≤ a ∧ a < f * r) ∨ (0 ≤ a ∧ f * r ≤ a)) with h | ⟨h, h'⟩ | ⟨h, h'⟩
    all_goals
      go_enter Try.func64, Try.ntmps64
      go_wp2_with (go_at_call 55; refine (rsize _ _ _).mono ?_; rintro e w' ⟨rfl, hb⟩; obtain ⟨q0, q1, q2⟩ := box_cells hb; have hbH := Lib.hid (below_box hb); clear hb)
      go_ret
      exact ⟨by rw [hq.out]; exact rb (by first | rfl | (rw [decide_eq_decide]; omega) | (symm; simp; omega)), hbH.out⟩
theorem place_bd {f r a : Int} (h : sqB f r a = true) : 0 ≤ a % f ∧ a % f < f ∧ 0 ≤ a / f ∧ a / f < r ∧ a % f + a / f * f = a := by
  obtain ⟨hs, h0, h1⟩ := sqB_out h
  obtain ⟨f0, f1, r0, r1⟩ := szB_out hs
  have e1 : 0 ≤ a % f := Int.emod_nonneg _ (by omega)
  have e2 : a % f < f := Int.emod_lt_of_pos _ (by omega)
  have e3 : 0 ≤ a / f := Int.ediv_nonneg h0 (by omega)
  have e4 : a / f < r := Int.ediv_lt_of_lt_mul (by omega) (by rw [Int.mul_comm]; exact h1)
  have e5 : a % f + a / f * f = a := by rw [Int.mul_comm]; exact Int.emod_add_mul_ediv a f
  exact ⟨e1, e2, e3, e4, e5⟩
/-- the colour -/
def lightB (f a : Int) : Bool := (a % f + a / f) % 2 == 1
/-- the greatest of four -/
def mx4 (x y z u : Int) : Int := max (max (max x y) z) u
theorem run_max_int4 {P : Program} {w : World} (ts : Array TypeId) (t : TypeId) (k k' k2 k3 : IntKind) (x y z u : Int) : (Builtin.max_ ts t #[.int k x, .int k' y, .int k2 z, .int k3 u]).run P w = .ok (.int k (mx4 x y z u)) w := by
  have e : mx4 x y z u = if u > (if z > (if y > x then y else x) then z else (if y > x then y else x)) then u else (if z > (if y > x then y else x) then z else (if y > x then y else x)) := by
    unfold mx4
    split <;> split <;> split <;> omega
  rw [e]
  simp [Builtin.max_, Builtin.max2]
attribute [local go_sem] run_max_int4
/-- the distance -/
def distV (f a b : Int) : Int := max (max (a % f - b % f) (b % f - a % f)) (max (a / f - b / f) (b / f - a / f))
/-- the number of a file and a rank -/
theorem at_bd {f r x y : Int} (hs : szB f r = true) (h : onB f r x y = true) : 0 ≤ x ∧ x < f ∧ 0 ≤ y ∧ y < r ∧ 0 ≤ y * f ∧ y * f ≤ 56 := by
  obtain ⟨f0, f1, r0, r1⟩ := szB_out hs
  have := of_decide_eq_true h
  obtain ⟨h0, h1, h2, h3⟩ := this
  have e1 : 0 ≤ y * f := Int.mul_nonneg h2 (by omega)
  have e2 : y * f ≤ 7 * 8 := Int.mul_le_mul (by omega) f1 (by omega) (by omega)
  exact ⟨h0, h1, h2, h3, e1, by omega⟩
attribute [local go_sem ↓] Go.wp_at_zero Go.wp_at_succ
/-- the byte of a number -/
def bx (n : Int) : UInt8 := UInt8.ofNat n.toNat
theorem bx_of {n : Int} (h0 : 0 ≤ n) (h1 : n < 256) : n = ((bx n).toNat : Int) := by
  unfold bx
  rw [UInt8.toNat_ofNat']
  omega
/-- the name of a file and a rank -/
def nm (x y : Int) : ByteArray := ⟨#[bx (97 + x), bx (49 + y)]⟩
theorem below_2 (w : World) (o o' : Obj) : Below w.heap.size w ((w.alloc o).alloc o').drew := (((Below.refl _ _).alloc (Nat.le_refl _) o).alloc (by simp) o').drew
/-- the reference's place, a struct -/
theorem rplace (f r a : Int) (w : World) (h : sqB f r a = true) : Calls Try.prog 68 #[.agg #[.int .i64 f, .int .i64 r], .int .i64 a] w fun e w' => e = .returned (.agg #[.int .i64 (a % f), .int .i64 (a / f)]) ∧ Below w.heap.size w w' := by
  obtain ⟨hs, h0, h1⟩ := sqB_out h
  obtain ⟨f0, f1, r0, r1⟩ := szB_out hs
  obtain ⟨m0, m1⟩ := mul_bd f0 f1 r0 r1
  have hf0 : (f == 0) = false := by rw [beq_eq_false_iff_ne]; omega
  have hbd := Lib.hid (place_bd h)
  have ht1 : a.tmod f = a % f := Int.tmod_eq_emod_of_nonneg h0
  have ht2 : a.tdiv f = a / f := Int.tdiv_eq_ediv_of_nonneg h0
  have d0 : 0 ≤ a / f := hbd.out.2.2.1
  have d1 : a / f < r := hbd.out.2.2.2.1
  have hw : IntKind.i64.wrap (a / f) = a / f := IntWalk.i64_in _ (by omega)
  go_enter Try.func68, Try.ntmps68
  go_wp2
  go_region
  go_wp2
  exact bodyPost_ret (v := .agg #[.int .i64 (a % f), .int .i64 (a / f)]) (by simp [results, Try.results68, go_sem]) rfl ⟨rfl, below_2 w _ _⟩
theorem ext_a (x : Nat) (h : x < 8) : (ByteArray.mk #[97, 98, 99, 100, 101, 102, 103, 104]).extract x (x + 1) = ⟨#[bx (97 + (x : Int))]⟩ := by
  obtain rfl | rfl | rfl | rfl | rfl | rfl | rfl | rfl : x = 0 ∨ x = 1 ∨ x = 2 ∨ x = 3 ∨ x = 4 ∨ x = 5 ∨ x = 6 ∨ x = 7 := by omega
  all_goals rfl
theorem ext_1 (x : Nat) (h : x < 8) : (ByteArray.mk #[49, 50, 51, 52, 53, 54, 55, 56]).extract x (x + 1) = ⟨#[bx (49 + (x : Int))]⟩ := by
  obtain rfl | rfl | rfl | rfl | rfl | rfl | rfl | rfl : x = 0 ∨ x = 1 ∨ x = 2 ∨ x = 3 ∨ x = 4 ∨ x = 5 ∨ x = 6 ∨ x = 7 := by omega
  all_goals rfl
theorem nm_ext (x y : Nat) (hx : x < 8) (hy : y < 8) : (ByteArray.mk #[97, 98, 99, 100, 101, 102, 103, 104]).extract x (x + 1) ++ (ByteArray.mk #[49, 50, 51, 52, 53, 54, 55, 56]).extract y (y + 1) = nm x y := by
  rw [ext_a x hx, ext_1 y hy]
  rfl
theorem rs {a b : ByteArray} (h : a = b) : Ending.returned (.string a) = .returned (.string b) := by rw [h]
theorem rname_yes (f r a : Int) (w : World) (h : sqB f r a = true) : Calls Try.prog 67 #[.agg #[.int .i64 f, .int .i64 r], .int .i64 a] w fun e w' => e = .returned (.string (nm (a % f) (a / f))) ∧ Below w.heap.size w w' := by
  obtain ⟨hs, h0, h1⟩ := sqB_out h
  obtain ⟨f0, f1, r0, r1⟩ := szB_out hs
  obtain ⟨d0, d1, d2, d3, d4⟩ := place_bd h
  clear d4
  obtain ⟨x, hx⟩ : ∃ x : Nat, (x : Int) = a % f := ⟨(a % f).toNat, by omega⟩
  obtain ⟨y, hy⟩ : ∃ y : Nat, (y : Int) = a / f := ⟨(a / f).toNat, by omega⟩
  have hpl := Lib.hid (fun w : World => rplace f r a w h)
  rw [← hx] at d0 d1 hpl ⊢
  rw [← hy] at d2 d3 hpl ⊢
  have hxH := Lib.hid hx
  have hyH := Lib.hid hy
  clear hx hy
  go_enter Try.func67, Try.ntmps67
  go_wp2_with (go_at_call 68; refine (hpl.out _).mono ?_; rintro e w1 ⟨rfl, hb⟩; have hbH := Lib.hid (below_box hb); clear hb)
  go_quiet (fail)
  go_wp2
  go_ret
  exact ⟨rs (nm_ext x y (by omega) (by omega)), below_drewN (hbH.out.alloc hbH.out.size _) _⟩
theorem bx_inj {a b : Int} (a0 : 0 ≤ a) (a1 : a < 256) (b0 : 0 ≤ b) (b1 : b < 256) (h : bx a = bx b) : a = b := by
  rw [bx_of a0 a1, bx_of b0 b1, h]
theorem nm_inj {x y x' y' : Int} (hx : 0 ≤ x ∧ x < 8) (hy : 0 ≤ y ∧ y < 8) (hx' : 0 ≤ x' ∧ x' < 8) (hy' : 0 ≤ y' ∧ y' < 8) (h : nm x y = nm x' y') : x = x' ∧ y = y' := by
  unfold nm at h
  injection h with h
  have h1 : bx (97 + x) = bx (97 + x') := by
    have := congrArg (fun a : Array UInt8 => a[0]?) h
    simpa using this
  have h2 : bx (49 + y) = bx (49 + y') := by
    have := congrArg (fun a : Array UInt8 => a[1]?) h
    simpa using this
  have e1 := bx_inj (by omega) (by omega) (by omega) (by omega) h1
  have e2 := bx_inj (by omega) (by omega) (by omega) (by omega) h2
  omega
theorem nm_sq {f r a b : Int} (ha : sqB f r a = true) (hb : sqB f r b = true) (h : nm (a % f) (a / f) = nm (b % f) (b / f)) : a = b := by
  obtain ⟨f0, f1, r0, r1⟩ := szB_out (sqB_out ha).1
  obtain ⟨a1, a2, a3, a4, a5⟩ := place_bd ha
  obtain ⟨b1, b2, b3, b4, b5⟩ := place_bd hb
  obtain ⟨e1, e2⟩ := nm_inj ⟨a1, by omega⟩ ⟨a3, by omega⟩ ⟨b1, by omega⟩ ⟨b3, by omega⟩ h
  rw [← a5, ← b5, e1, e2]
theorem list_eq {a b : ByteArray} (h : a.toList = b.toList) : a = b := by
  rw [ByteArray.toList_eq, ByteArray.toList_eq] at h
  obtain ⟨⟨a⟩⟩ := a
  obtain ⟨⟨b⟩⟩ := b
  simp only at h
  rw [h]
theorem list_ne {a b : ByteArray} (h : a ≠ b) : (a.toList == b.toList) = false := by
  rw [beq_eq_false_iff_ne]
  exact fun e => h (list_eq e)
set_option maxHeartbeats 1000000 in
theorem rparse_yes (f r n : Int) (s : ByteArray) (w : World) (hs : sqB f r n = true) (hn : nm (n % f) (n / f) = s) : Calls Try.prog 66 #[.agg #[.int .i64 f, .int .i64 r], .string s] w fun e w' => e = .returned (.int .i64 n) ∧ Below w.heap.size w w' := by
  obtain ⟨hz, n0, n1⟩ := sqB_out hs
  obtain ⟨f0, f1, r0, r1⟩ := szB_out hz
  obtain ⟨m0, m1⟩ := mul_bd f0 f1 r0 r1
  have hne : Hid (∀ k : Int, sqB f r k = true → k ≠ n → ((nm (k % f) (k / f)).toList == s.toList) = false) := fun k hk hkn => list_ne (fun e => hkn (nm_sq hk hs (e.trans hn.symm)))
  have heq : Hid (((nm (n % f) (n / f)).toList == s.toList) = true) := by unfold Hid; rw [hn]; simp
  have hsH := Lib.hid hs
  clear hn hs
  go_enter Try.func66, Try.ntmps66
  go_wp2
  go_loopw [5] (fun i wr => ∃ k : Int, 0 ≤ k ∧ k ≤ n ∧ i = .int .i64 k ∧ wr.cell? ⟨w.heap.size, 0, none⟩ = some (.int .i64 f) ∧ wr.cell? ⟨w.heap.size, 1, none⟩ = some (.int .i64 r) ∧ w.heap.size < wr.heap.size ∧ Hid (Below w.heap.size w wr)) (fun i _ => (n - intOf i).toNat)
  case atStart => exact ⟨0, by omega, by omega, rfl, by simp, by simp, by simp, (Below.refl _ _).alloc (Nat.le_refl _) _⟩
  case round =>
    obtain ⟨k, k0, k1, rfl, c0, c1, hsz, hbH⟩ := hrel
    have hsk : sqB f r k = true := by rw [sqB_in hz]; exact decide_eq_true ⟨k0, by omega⟩
    have hskH := Lib.hid hsk
    clear hsk
    by_cases hk : k = n
    · subst hk
      have hb := heq.out
      go_wp2_with (go_at_call 67; refine (rname_yes _ _ _ _ hskH.out).mono ?_; rintro e w1 ⟨rfl, hb1⟩; have hbH1 := Lib.hid (hbH.out.trans (hb1.mono hbH.out.size)); clear hb1)
      go_ret
      exact ⟨rfl, hbH1.out⟩
    · have hb := hne.out k hskH.out hk
      have hlt : k < n := by omega
      clear hk
      go_wp2_with (go_at_call 67; refine (rname_yes _ _ _ _ hskH.out).mono ?_; rintro e w1 ⟨rfl, hb1⟩; have hbH1 := Lib.hid (hbH.out.trans (hb1.mono hbH.out.size)); have d0 := (hb1.cell (p := ⟨w.heap.size, 0, none⟩) hsz).trans c0; have d1 := (hb1.cell (p := ⟨w.heap.size, 1, none⟩) hsz).trans c1; have hsz1 := Nat.lt_of_lt_of_le hsz hb1.size; clear hb1)
      go_roundw
      case rel => exact ⟨k + 1, by omega, by omega, rfl, d0, d1, hsz1, hbH1⟩
      case measure => simp [intOf]; omega
set_option maxHeartbeats 1000000 in
theorem rparse_no (f r : Int) (s : ByteArray) (w : World) (hz : szB f r = true) (hn : ∀ k : Int, sqB f r k = true → nm (k % f) (k / f) ≠ s) : Calls Try.prog 66 #[.agg #[.int .i64 f, .int .i64 r], .string s] w fun e w' => e = .returned (.int .i64 (-1)) ∧ Below w.heap.size w w' := by
  obtain ⟨f0, f1, r0, r1⟩ := szB_out hz
  obtain ⟨m0, m1⟩ := mul_bd f0 f1 r0 r1
  have hne : Hid (∀ k : Int, sqB f r k = true → ((nm (k % f) (k / f)).toList == s.toList) = false) := fun k hk => list_ne (hn k hk)
  clear hn
  go_enter Try.func66, Try.ntmps66
  go_wp2
  go_loopw [5] (fun i wr => ∃ k : Int, 0 ≤ k ∧ k ≤ f * r ∧ i = .int .i64 k ∧ wr.cell? ⟨w.heap.size, 0, none⟩ = some (.int .i64 f) ∧ wr.cell? ⟨w.heap.size, 1, none⟩ = some (.int .i64 r) ∧ w.heap.size < wr.heap.size ∧ Hid (Below w.heap.size w wr)) (fun i _ => (f * r - intOf i).toNat)
  case atStart => exact ⟨0, by omega, by omega, rfl, by simp, by simp, by simp, (Below.refl _ _).alloc (Nat.le_refl _) _⟩
  case round =>
    obtain ⟨k, k0, k1, rfl, c0, c1, hsz, hbH⟩ := hrel
    by_cases hk : k < f * r
    · have hsk : sqB f r k = true := by rw [sqB_in hz]; exact decide_eq_true ⟨k0, by omega⟩
      have hskH := Lib.hid hsk
      have hb := hne.out k hsk
      clear hsk
      go_wp2_with (go_at_call 67; refine (rname_yes _ _ _ _ hskH.out).mono ?_; rintro e w1 ⟨rfl, hb1⟩; have hbH1 := Lib.hid (hbH.out.trans (hb1.mono hbH.out.size)); have d0 := (hb1.cell (p := ⟨w.heap.size, 0, none⟩) hsz).trans c0; have d1 := (hb1.cell (p := ⟨w.heap.size, 1, none⟩) hsz).trans c1; have hsz1 := Nat.lt_of_lt_of_le hsz hb1.size; clear hb1)
      go_roundw
      case rel => exact ⟨k + 1, by omega, by omega, rfl, d0, d1, hsz1, hbH1⟩
      case measure => simp [intOf]; omega
    · go_wp2
      go_ret
      exact ⟨rfl, hbH.out⟩
theorem onB_out {f r x y : Int} (h : onB f r x y = true) : 0 ≤ x ∧ x < f ∧ 0 ≤ y ∧ y < r := by
  simpa [onB, and_assoc] using h
theorem mul_bd2 {f r x y : Int} (f0 : 3 ≤ f) (f1 : f ≤ 8) (r0 : 3 ≤ r) (r1 : r ≤ 8) (h0 : 0 ≤ x) (h1 : x < f) (h2 : 0 ≤ y) (h3 : y < r) : (0 ≤ y * f ∧ y * f ≤ 56) ∧ 0 ≤ x + y * f ∧ x + y * f < f * r := by
  have e1 : 0 ≤ y * f := Int.mul_nonneg h2 (by omega)
  have e2 : y * f ≤ (r - 1) * f := Int.mul_le_mul_of_nonneg_right (by omega) (by omega)
  have e3 : (r - 1) * f = r * f - f := by rw [Int.sub_mul]; omega
  have e4 : r * f = f * r := Int.mul_comm _ _
  have e5 : (r - 1) * f ≤ 7 * 8 := Int.mul_le_mul (by omega) f1 (by omega) (by omega)
  refine ⟨⟨e1, by omega⟩, by omega, by omega⟩
/-- the box of the size lies in W as it lay -/
structure BK (f r : Int) (w W : World) : Prop where
  c0 : W.cell? ⟨w.heap.size, 0, none⟩ = some (.int .i64 f)
  c1 : W.cell? ⟨w.heap.size, 1, none⟩ = some (.int .i64 r)
  lt : w.heap.size < W.heap.size
  below : Below w.heap.size w W
theorem BK.first (f r : Int) (w : World) (t : TypeId) : BK f r w (w.alloc (.cells #[.int .i64 f, .int .i64 r] t)) :=
  ⟨by simp, by simp, by simp, (Below.refl _ _).alloc (Nat.le_refl _) _⟩
theorem BK.next {f r : Int} {w W W' : World} (h : BK f r w W) (hb : Below W.heap.size W W') : BK f r w W' :=
  ⟨(hb.cell (p := ⟨w.heap.size, 0, none⟩) h.lt).trans h.c0, (hb.cell (p := ⟨w.heap.size, 1, none⟩) h.lt).trans h.c1, Nat.lt_of_lt_of_le h.lt hb.size, h.below.trans (hb.mono h.below.size)⟩
theorem two_of {s : ByteArray} (h0 : 0 < s.size) (h1 : 1 < s.size) (hl : s.size ≤ 2) : s = ⟨#[s[0]'h0, s[1]'h1]⟩ := by
  obtain ⟨⟨l⟩⟩ := s
  have h2 : l.length = 2 := Nat.le_antisymm hl h1
  match l, h2 with
  | [a, b], _ => rfl
theorem nm_of (b c : UInt8) : nm ((b.toNat : Int) - 97) ((c.toNat : Int) - 49) = ⟨#[b, c]⟩ := by
  unfold nm bx
  rw [show (97 + ((b.toNat : Int) - 97)).toNat = b.toNat by omega, show (49 + ((c.toNat : Int) - 49)).toNat = c.toNat by omega, UInt8.ofNat_toNat, UInt8.ofNat_toNat]
theorem nm_out {x y : Int} {s : ByteArray} (h0 : 0 < s.size) (h1 : 1 < s.size) (hx : 0 ≤ x ∧ x < 8) (hy : 0 ≤ y ∧ y < 8) (h : nm x y = s) : x = ((s[0]'h0).toNat : Int) - 97 ∧ y = ((s[1]'h1).toNat : Int) - 49 := by
  subst h
  have e0 := bx_of (n := 97 + x) (by omega) (by omega)
  have e1 := bx_of (n := 49 + y) (by omega) (by omega)
  exact ⟨by show x = ((bx (97 + x)).toNat : Int) - 97; omega, by show y = ((bx (49 + y)).toNat : Int) - 49; omega⟩
theorem on_sq {f r x y : Int} (hs : szB f r = true) (h : onB f r x y = true) : sqB f r (x + y * f) = true ∧ (x + y * f) % f = x ∧ (x + y * f) / f = y := by
  obtain ⟨o0, o1, o2, o3⟩ := onB_out h
  obtain ⟨f0, f1, r0, r1⟩ := szB_out hs
  obtain ⟨_, b0, b1⟩ := mul_bd2 f0 f1 r0 r1 o0 o1 o2 o3
  refine ⟨?_, ?_, ?_⟩
  · rw [sqB_in hs]; exact decide_eq_true ⟨b0, b1⟩
  · rw [Int.add_mul_emod_self_right, Int.emod_eq_of_lt o0 o1]
  · rw [Int.add_mul_ediv_right _ _ (by omega), Int.ediv_eq_zero_of_lt o0 o1, Int.zero_add]
theorem sq_on {f r a : Int} (h : sqB f r a = true) : onB f r (a % f) (a / f) = true := by
  obtain ⟨d0, d1, d2, d3, _⟩ := place_bd h
  exact decide_eq_true ⟨d0, d1, d2, d3⟩
end Go.Proofs.Yteaclphankckiaa
