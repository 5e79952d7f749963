/- Contracts of functions that another seat has proved already, over this program: XQa, XQb, XQi:ofL,ofL_succ,ofL_lt, XQg:testBit_pow, XQh:allV,all_val,allV_lt,all_shift, XQk:BK,BK.first,BK.next,BK.drew,BK.alloc, XQo, XQp, XQt:rhas, XQu, XQf:list_eq,list_ne, XMi:tk,sEnc,sEnc_len,sEnc_one,strRow,recs_str,O1.alloc,grown_of_below,O1.next,O1.app,own_cap, XMg:ba_eq, XMj:emp_ne, XMo:flatS,O1.store,own_form,ext_one,ba_eq,nextW, XQs:undrew. -/
import Derived.WalkKit
import Derived.ProofKit
import Derived.Below
import Derived.Lib.Hide
import Derived.WalkSpells
import Derived.WalkLawsBesides
import Derived.Deep.QuietTactic
import Derived.BigQuiet
import Derived.Deep.Draws
import Derived.Outline
import Derived.Test.YtjglpphfkkabnaaDoorProg
import Derived.Test.YtjglpphfkkabnaaDoorOw
import Derived.Test.YtjglpphfkkabnaaDoorOx
namespace Go.Proofs.YtjglpphfkkabnaaDoor
open Go.RowKit
set_option linter.unusedSimpArgs false
set_option linter.unusedVariables false
theorem ri {k : IntKind} {a b : Int} (h : a = b) : Ending.returned (.int k a) = .returned (.int k b) := by rw [h]
theorem rb {a b : Bool} (h : a = b) : Ending.returned (.bool a) = .returned (.bool b) := by rw [h]
theorem vi {k : IntKind} {a b : Int} (h : a = b) : Value.int k a = .int k b := by rw [h]
theorem vb {a b : Bool} (h : a = b) : Value.bool a = .bool b := by rw [h]
theorem below_drewN {B : Nat} {a w : World} (h : Below B a w) (n : Nat) : Below B a (w.drewN n) := ⟨h.os, h.tape, h.output, h.size, h.block⟩
/-- what a call made behind one new block: nothing that was there has turned -/
theorem below_box {w w1 : World} {o : Obj} (hb : Below (w.alloc o).heap.size (w.alloc o) w1) : Below w.heap.size w w1 :=
  ((Below.refl _ _).alloc (Nat.le_refl _) _).trans (hb.mono (by simp))
/-- the two cells of a size that was boxed lie behind a call as they lay -/
theorem box_cells {w w1 : World} {f r : Int} {t : TypeId} (hb : Below (w.alloc (.cells #[.int .i64 f, .int .i64 r] t)).heap.size (w.alloc (.cells #[.int .i64 f, .int .i64 r] t)) w1) :
    w1.cell? ⟨w.heap.size, 0, none⟩ = some (.int .i64 f) ∧ w1.cell? ⟨w.heap.size, 1, none⟩ = some (.int .i64 r) ∧ w.heap.size < w1.heap.size := by
  refine ⟨?_, ?_, ?_⟩
  · rw [hb.cell (p := ⟨w.heap.size, 0, none⟩) (by simp)]; simp
  · rw [hb.cell (p := ⟨w.heap.size, 1, none⟩) (by simp)]; simp
  · have := hb.size; simp at this; omega
/-- is x from a to b? -/
def inB (x a b : Int) : Bool := decide (a ≤ x ∧ x ≤ b)
theorem inB_yes {x a b : Int} (h1 : a ≤ x) (h2 : x ≤ b) : inB x a b = true := decide_eq_true ⟨h1, h2⟩
theorem inB_no {x a b : Int} (h : x < a ∨ b < x) : inB x a b = false := decide_eq_false (by omega)
theorem inB_or (x a b : Int) : (a ≤ x ∧ x ≤ b ∧ inB x a b = true) ∨ ((x < a ∨ b < x) ∧ inB x a b = false) := by
  by_cases h : a ≤ x ∧ x ≤ b
  · exact .inl ⟨h.1, h.2, inB_yes h.1 h.2⟩
  · exact .inr ⟨by omega, inB_no (by omega)⟩
/-- is it a size? -/
def szB (f r : Int) : Bool := decide (3 ≤ f ∧ f ≤ 8 ∧ 3 ≤ r ∧ r ≤ 8)
theorem szB_yes {f r : Int} (f0 : 3 ≤ f) (f1 : f ≤ 8) (r0 : 3 ≤ r) (r1 : r ≤ 8) : szB f r = true := decide_eq_true ⟨f0, f1, r0, r1⟩
theorem szB_out {f r : Int} (h : szB f r = true) : 3 ≤ f ∧ f ≤ 8 ∧ 3 ≤ r ∧ r ≤ 8 := of_decide_eq_true h
theorem szB_no {f r : Int} (h : (f < 3 ∨ 8 < f) ∨ (r < 3 ∨ 8 < r)) : szB f r = false := decide_eq_false (by omega)
theorem mul_bd {f r : Int} (f0 : 3 ≤ f) (f1 : f ≤ 8) (r0 : 3 ≤ r) (r1 : r ≤ 8) : 9 ≤ f * r ∧ f * r ≤ 64 := by
  have h1 : 3 * 3 ≤ f * r := Int.mul_le_mul f0 r0 (by omega) (by omega)
  have h2 : f * r ≤ 8 * 8 := Int.mul_le_mul f1 r1 (by omega) (by omega)
  omega
/-- is it a square of the board? -/
def sqB (f r a : Int) : Bool := szB f r && decide (0 ≤ a ∧ a < f * r)
theorem sqB_sz {f r a : Int} (h : szB f r = false) : sqB f r a = false := by unfold sqB; rw [h]; rfl
theorem sqB_in {f r a : Int} (h : szB f r = true) : sqB f r a = decide (0 ≤ a ∧ a < f * r) := by unfold sqB; rw [h]; rfl
theorem sqB_out {f r a : Int} (h : sqB f r a = true) : szB f r = true ∧ 0 ≤ a ∧ a < f * r := by
  unfold sqB at h
  rw [Bool.and_eq_true, decide_eq_true_eq] at h
  exact h
/-- are the file and the rank on the board? -/
def onB (f r x y : Int) : Bool := decide (0 ≤ x ∧ x < f ∧ 0 ≤ y ∧ y < r)
theorem pside (n : Int) (w : World) : Calls Tryd.prog 69 #[.int .i64 n] w fun e w' => e = .returned (.bool (inB n 3 8)) ∧ w = w' := by
  rcases inB_or n 3 8 with ⟨h0, h1, hb⟩ | ⟨h, hb⟩
  · have hbH := Lib.hid hb
    clear hb
    go_enter Tryd.func69, Tryd.ntmps69
    go_wp2
    go_ret
    exact ⟨by rw [hbH.out]; rfl, rfl⟩
  · have hbH := Lib.hid hb
    clear hb
    rcases (by omega : n < 3 ∨ (3 ≤ n ∧ 8 < n)) with h | ⟨h', h⟩
    all_goals
      go_enter Tryd.func69, Tryd.ntmps69
      go_wp2
      go_ret
      exact ⟨by rw [hbH.out]; first | rfl | exact rb (by simp; omega), rfl⟩
theorem pvsize (f r : Int) (w : World) : Calls Tryd.prog 59 #[.agg #[.int .i64 f, .int .i64 r]] w fun e w' => e = .returned (.bool (szB f r)) ∧ Below w.heap.size w w' := by
  rcases inB_or f 3 8 with ⟨f0, f1, hf⟩ | ⟨h, hf⟩
  · rcases inB_or r 3 8 with ⟨r0, r1, hr⟩ | ⟨h, hr⟩
    · have hs := Lib.hid (szB_yes f0 f1 r0 r1)
      go_enter Tryd.func59, Tryd.ntmps59
      go_wp2_with (go_at_call 69; refine (pside _ _).mono ?_; rintro e w' ⟨rfl, rfl⟩)
      go_ret
      exact ⟨by rw [hs.out]; rfl, (Below.refl _ _).alloc (Nat.le_refl _) _⟩
    · have hs := Lib.hid (szB_no (f := f) (r := r) (.inr h))
      go_enter Tryd.func59, Tryd.ntmps59
      go_wp2_with (go_at_call 69; refine (pside _ _).mono ?_; rintro e w' ⟨rfl, rfl⟩)
      go_ret
      exact ⟨by rw [hs.out]; rfl, (Below.refl _ _).alloc (Nat.le_refl _) _⟩
  · have hs := Lib.hid (szB_no (f := f) (r := r) (.inl h))
    go_enter Tryd.func59, Tryd.ntmps59
    go_wp2_with (go_at_call 69; refine (pside _ _).mono ?_; rintro e w' ⟨rfl, rfl⟩)
    go_ret
    exact ⟨by rw [hs.out]; rfl, (Below.refl _ _).alloc (Nat.le_refl _) _⟩
theorem rsize (f r : Int) (w : World) : Calls Tryd.prog 15 #[.agg #[.int .i64 f, .int .i64 r]] w fun e w' => e = .returned (.bool (szB f r)) ∧ Below w.heap.size w w' := by
  rcases (by omega : f < 3 ∨ (3 ≤ f ∧ 8 < f) ∨ (3 ≤ f ∧ f ≤ 8)) with h | ⟨h, h'⟩ | ⟨f0, f1⟩
  · have hs := Lib.hid (szB_no (f := f) (r := r) (.inl (.inl h)))
    go_enter Tryd.func15, Tryd.ntmps15
    go_wp2
    go_ret
    exact ⟨by rw [hs.out]; rfl, (Below.refl _ _).alloc (Nat.le_refl _) _⟩
  · have hs := Lib.hid (szB_no (f := f) (r := r) (.inl (.inr h')))
    go_enter Tryd.func15, Tryd.ntmps15
    go_wp2
    go_ret
    exact ⟨by rw [hs.out]; exact rb (by first | rfl | (simp; omega)), (Below.refl _ _).alloc (Nat.le_refl _) _⟩
  · rcases (by omega : r < 3 ∨ (3 ≤ r ∧ 8 < r) ∨ (3 ≤ r ∧ r ≤ 8)) with h | ⟨h, h'⟩ | ⟨r0, r1⟩
    · have hs := Lib.hid (szB_no (f := f) (r := r) (.inr (.inl h)))
      go_enter Tryd.func15, Tryd.ntmps15
      go_wp2
      go_ret
      exact ⟨by rw [hs.out]; exact rb (by first | rfl | (simp; omega)), (Below.refl _ _).alloc (Nat.le_refl _) _⟩
    · have hs := Lib.hid (szB_no (f := f) (r := r) (.inr (.inr h')))
      go_enter Tryd.func15, Tryd.ntmps15
      go_wp2
      go_ret
      exact ⟨by rw [hs.out]; exact rb (by first | rfl | (simp; omega)), (Below.refl _ _).alloc (Nat.le_refl _) _⟩
    · have hs := Lib.hid (szB_yes f0 f1 r0 r1)
      go_enter Tryd.func15, Tryd.ntmps15
      go_wp2
      go_ret
      exact ⟨by rw [hs.out]; exact rb (by first | rfl | (simp; omega)), (Below.refl _ _).alloc (Nat.le_refl _) _⟩
theorem pvalidsq (f r a : Int) (w : World) : Calls Tryd.prog 37 #[.agg #[.int .i64 f, .int .i64 r], .int .i64 a] w fun e w' => e = .returned (.bool (sqB f r a)) ∧ Below w.heap.size w w' := by
  cases hs : szB f r
  · have hq := Lib.hid (sqB_sz (a := a) hs)
    go_enter Tryd.func37, Tryd.ntmps37
    go_wp2_with (go_at_call 59; refine (pvsize _ _ _).mono ?_; rintro e w' ⟨rfl, hb⟩; obtain ⟨q0, q1, q2⟩ := box_cells hb; have hbH := Lib.hid (below_box hb); clear hb)
    go_ret
    exact ⟨by rw [hq.out]; rfl, hbH.out⟩
  · obtain ⟨f0, f1, r0, r1⟩ := szB_out hs
    obtain ⟨m0, m1⟩ := mul_bd f0 f1 r0 r1
    have hq := Lib.hid (sqB_in (a := a) hs)
    rcases (by omega : a < 0 ∨ (0 ≤ a ∧ a < f * r) ∨ (0 ≤ a ∧ f * r ≤ a)) with h | ⟨h, h'⟩ | ⟨h, h'⟩
    all_goals
      go_enter Tryd.func37, Tryd.ntmps37
      go_wp2_with (go_at_call 59; refine (pvsize _ _ _).mono ?_; rintro e w' ⟨rfl, hb⟩; obtain ⟨q0, q1, q2⟩ := box_cells hb; have hbH := Lib.hid (below_box hb); clear hb)
      go_ret
      exact ⟨by rw [hq.out]; exact rb (by first | rfl | (rw [decide_eq_decide]; omega) | (symm; simp; omega)), hbH.out⟩
theorem rvalidsq (f r a : Int) (w : World) : Calls Tryd.prog 18 #[.agg #[.int .i64 f, .int .i64 r], .int .i64 a] w fun e w' => e = .returned (.bool (sqB f r a)) ∧ Below w.heap.size w w' := by
  cases hs : szB f r
  · have hq := Lib.hid (sqB_sz (a := a) hs)
    go_enter Tryd.func18, Tryd.ntmps18
    go_wp2_with (go_at_call 15; refine (rsize _ _ _).mono ?_; rintro e w' ⟨rfl, hb⟩; obtain ⟨q0, q1, q2⟩ := box_cells hb; have hbH := Lib.hid (below_box hb); clear hb)
    go_ret
    exact ⟨by rw [hq.out]; rfl, hbH.out⟩
  · obtain ⟨f0, f1, r0, r1⟩ := szB_out hs
    obtain ⟨m0, m1⟩ := mul_bd f0 f1 r0 r1
    have hq := Lib.hid (sqB_in (a := a) hs)
    rcases (by omega : a < 0 ∨ (0 ≤ a ∧ a < f * r) ∨ (0 ≤ a ∧ f * r ≤ a)) with h | ⟨h, h'⟩ | ⟨h, h'⟩
    all_goals
      go_enter Tryd.func18, Tryd.ntmps18
      go_wp2_with (go_at_call 15; refine (rsize _ _ _).mono ?_; rintro e w' ⟨rfl, hb⟩; obtain ⟨q0, q1, q2⟩ := box_cells hb; have hbH := Lib.hid (below_box hb); clear hb)
      go_ret
      exact ⟨by rw [hq.out]; exact rb (by first | rfl | (rw [decide_eq_decide]; omega) | (symm; simp; omega)), hbH.out⟩
theorem place_bd {f r a : Int} (h : sqB f r a = true) : 0 ≤ a % f ∧ a % f < f ∧ 0 ≤ a / f ∧ a / f < r ∧ a % f + a / f * f = a := by
  obtain ⟨hs, h0, h1⟩ := sqB_out h
  obtain ⟨f0, f1, r0, r1⟩ := szB_out hs
  have e1 : 0 ≤ a % f := Int.emod_nonneg _ (by omega)
  have e2 : a % f < f := Int.emod_lt_of_pos _ (by omega)
  have e3 : 0 ≤ a / f := Int.ediv_nonneg h0 (by omega)
  have e4 : a / f < r := Int.ediv_lt_of_lt_mul (by omega) (by rw [Int.mul_comm]; exact h1)
  have e5 : a % f + a / f * f = a := by rw [Int.mul_comm]; exact Int.emod_add_mul_ediv a f
  exact ⟨e1, e2, e3, e4, e5⟩
/-- the colour -/
def lightB (f a : Int) : Bool := (a % f + a / f) % 2 == 1
/-- the greatest of four -/
def mx4 (x y z u : Int) : Int := max (max (max x y) z) u
theorem run_max_int4 {P : Program} {w : World} (ts : Array TypeId) (t : TypeId) (k k' k2 k3 : IntKind) (x y z u : Int) : (Builtin.max_ ts t #[.int k x, .int k' y, .int k2 z, .int k3 u]).run P w = .ok (.int k (mx4 x y z u)) w := by
  have e : mx4 x y z u = if u > (if z > (if y > x then y else x) then z else (if y > x then y else x)) then u else (if z > (if y > x then y else x) then z else (if y > x then y else x)) := by
    unfold mx4
    split <;> split <;> split <;> omega
  rw [e]
  simp [Builtin.max_, Builtin.max2]
attribute [local go_sem] run_max_int4
/-- the distance -/
def distV (f a b : Int) : Int := max (max (a % f - b % f) (b % f - a % f)) (max (a / f - b / f) (b / f - a / f))
/-- the number of a file and a rank -/
theorem at_bd {f r x y : Int} (hs : szB f r = true) (h : onB f r x y = true) : 0 ≤ x ∧ x < f ∧ 0 ≤ y ∧ y < r ∧ 0 ≤ y * f ∧ y * f ≤ 56 := by
  obtain ⟨f0, f1, r0, r1⟩ := szB_out hs
  have := of_decide_eq_true h
  obtain ⟨h0, h1, h2, h3⟩ := this
  have e1 : 0 ≤ y * f := Int.mul_nonneg h2 (by omega)
  have e2 : y * f ≤ 7 * 8 := Int.mul_le_mul (by omega) f1 (by omega) (by omega)
  exact ⟨h0, h1, h2, h3, e1, by omega⟩
theorem pcount_yes (f r : Int) (w : World) (hs : szB f r = true) : Calls Tryd.prog 36 #[.agg #[.int .i64 f, .int .i64 r]] w fun e w' => e = .returned (.tuple #[.int .i64 (f * r), .int .i64 0]) ∧ Below w.heap.size w w' := by
  obtain ⟨f0, f1, r0, r1⟩ := szB_out hs
  obtain ⟨m0, m1⟩ := mul_bd f0 f1 r0 r1
  go_enter Tryd.func36, Tryd.ntmps36
  go_wp2_with (go_at_call 59; refine (pvsize _ _ _).mono ?_; rintro e w1 ⟨rfl, hb⟩; obtain ⟨q0, q1, q2⟩ := box_cells hb; have hbH := Lib.hid (below_box hb); clear hb)
  go_ret2
  exact ⟨rfl, hbH.out⟩
theorem pcount_no (f r : Int) (w : World) (hs : szB f r = false) : Calls Tryd.prog 36 #[.agg #[.int .i64 f, .int .i64 r]] w fun e w' => e = .returned (.tuple #[.int .i64 0, .int .i64 2]) ∧ Below w.heap.size w w' := by
  go_enter Tryd.func36, Tryd.ntmps36
  go_wp2_with (go_at_call 59; refine (pvsize _ _ _).mono ?_; rintro e w1 ⟨rfl, hb⟩; obtain ⟨q0, q1, q2⟩ := box_cells hb; have hbH := Lib.hid (below_box hb); clear hb)
  go_ret2
  exact ⟨rfl, hbH.out⟩
/-- the set of the first k squares of a list -/
def ofL (l : List Int) (k : Nat) : Nat := (l.take k).foldl (fun acc a => acc ||| 1 <<< a.toNat) 0
theorem ofL_succ {l : List Int} {k : Nat} (h : k < l.length) : ofL l (k + 1) = ofL l k ||| 1 <<< (l.getD k 0).toNat := by
  unfold ofL
  rw [List.take_add_one, List.foldl_append]
  simp [h]
theorem ofL_lt {l : List Int} (hl : ∀ j, j < l.length → 0 ≤ l.getD j 0 ∧ l.getD j 0 < 64) : ∀ k, k ≤ l.length → ofL l k < 18446744073709551616 := by
  intro k
  induction k with
  | zero => intro _; simp [ofL]
  | succ k ih =>
    intro hk
    rw [ofL_succ hk]
    obtain ⟨a0, a1⟩ := hl k hk
    refine Nat.or_lt_two_pow (n := 64) (ih (by omega)) ?_
    rw [Nat.shiftLeft_eq, Nat.one_mul]
    exact Nat.pow_lt_pow_right (by decide) (by omega)
/-- the set of all squares -/
def allV (f r : Int) : Nat := 2 ^ (f * r).toNat - 1
theorem all_shift : ∀ n : Nat, n ≤ 64 → 18446744073709551615 / 2 ^ (64 - n) = 2 ^ n - 1 := by
  intro n hn
  have key : ∀ n : Fin 65, 18446744073709551615 / 2 ^ (64 - n.1) = 2 ^ n.1 - 1 := by decide +kernel
  exact key ⟨n, by omega⟩
theorem all_val {f r : Int} (hs : szB f r = true) : (18446744073709551615 : Int) / 2 ^ (64 - f * r).toNat = (allV f r : Nat) := by
  obtain ⟨f0, f1, r0, r1⟩ := szB_out hs
  obtain ⟨m0, m1⟩ := mul_bd f0 f1 r0 r1
  have h := all_shift (f * r).toNat (by omega)
  unfold allV
  rw [← h, show (64 - f * r).toNat = 64 - (f * r).toNat by omega]
  rfl
theorem allV_lt {f r : Int} (hs : szB f r = true) : allV f r < 18446744073709551616 := by
  obtain ⟨f0, f1, r0, r1⟩ := szB_out hs
  obtain ⟨m0, m1⟩ := mul_bd f0 f1 r0 r1
  have : 2 ^ (f * r).toNat ≤ 2 ^ 64 := Nat.pow_le_pow_right (by decide) (by omega)
  have h2 : 1 ≤ 2 ^ (f * r).toNat := Nat.one_le_two_pow
  unfold allV
  omega
/-- the box of the size lies in W as it lay -/
structure BK (f r : Int) (w W : World) : Prop where
  c0 : W.cell? ⟨w.heap.size, 0, none⟩ = some (.int .i64 f)
  c1 : W.cell? ⟨w.heap.size, 1, none⟩ = some (.int .i64 r)
  lt : w.heap.size < W.heap.size
  below : Below w.heap.size w W
theorem BK.first (f r : Int) (w : World) (t : TypeId) : BK f r w (w.alloc (.cells #[.int .i64 f, .int .i64 r] t)) :=
  ⟨by simp, by simp, by simp, (Below.refl _ _).alloc (Nat.le_refl _) _⟩
theorem BK.next {f r : Int} {w W W' : World} (h : BK f r w W) (hb : Below W.heap.size W W') : BK f r w W' :=
  ⟨(hb.cell (p := ⟨w.heap.size, 0, none⟩) h.lt).trans h.c0, (hb.cell (p := ⟨w.heap.size, 1, none⟩) h.lt).trans h.c1, Nat.lt_of_lt_of_le h.lt hb.size, h.below.trans (hb.mono h.below.size)⟩
theorem rhas_no (k : Nat) (w : World) (hk : k < 64) : Calls Tryd.prog 44 #[.int .u64 ((2 ^ k - 1 : Nat) : Int), .int .i64 (k : Int)] w fun e w' => e = .returned (.bool false) ∧ w = w' := by
  have h1 : (2 ^ k - 1) / 2 ^ k = 0 := Nat.div_eq_of_lt (by have : 0 < 2 ^ k := Nat.two_pow_pos k; omega)
  have h2 : (((2 ^ k - 1 : Nat) : Int) / 2 ^ k) = 0 := by
    have : (((2 ^ k - 1) / 2 ^ k : Nat) : Int) = 0 := by rw [h1]; rfl
    rw [← this]; simp
  have h3 : (((2 ^ k - 1 : Nat) : Int) / 2 ^ (k : Int).toNat) = 0 := by simpa using h2
  generalize hm : ((2 ^ k - 1 : Nat) : Int) = m at *
  go_enter Tryd.func44, Tryd.ntmps44
  go_wp2
  go_ret
  exact ⟨rfl, rfl⟩
theorem all_step (k : Nat) (hk : k < 64) : IntKind.u64.wrap (((2 ^ k - 1 : Nat) : Int) + IntKind.u64.wrap (2 ^ k)) = ((2 ^ (k + 1) - 1 : Nat) : Int) := by
  have key : ∀ k : Fin 64, IntKind.u64.wrap (((2 ^ k.1 - 1 : Nat) : Int) + IntKind.u64.wrap (2 ^ k.1)) = ((2 ^ (k.1 + 1) - 1 : Nat) : Int) := by decide +kernel
  exact key ⟨k, hk⟩
set_option maxHeartbeats 1000000 in
theorem rof_all (n b off cap : Nat) (w : World) (hn : n ≤ 64) (hc : ∀ j, j < n → w.cell? ⟨b, off + j, none⟩ = some (.int .i64 (j : Int))) :
    Calls Tryd.prog 24 #[.slice (some ⟨b, off, none⟩) n cap] w fun e w' => e = .returned (.int .u64 ((2 ^ n - 1 : Nat) : Int)) ∧ w = w' := by
  have hcH := Lib.hid hc
  clear hc
  go_enter Tryd.func24, Tryd.ntmps24
  go_wp2
  go_loop [3, 4] (fun s i => ∃ k : Nat, k ≤ n ∧ i = .int .i64 k ∧ s = .int .u64 ((2 ^ k - 1 : Nat) : Int)) (fun _ i => n - (intOf i).toNat)
  case atStart => exact ⟨0, by omega, rfl, rfl⟩
  case round =>
    obtain ⟨k, hk, rfl, rfl⟩ := hrel
    by_cases hkn : k < n
    · have hcell := hcH.out k hkn
      have hs := all_step k (by omega)
      have hs' : IntKind.u64.wrap (((2 ^ k - 1 : Nat) : Int) + IntKind.u64.wrap (2 ^ (k : Int).toNat)) = ((2 ^ (k + 1) - 1 : Nat) : Int) := by simpa using hs
      have hh := Lib.hid (rhas_no k w (by omega))
      generalize hm : ((2 ^ k - 1 : Nat) : Int) = m at *
      generalize hm2 : ((2 ^ (k + 1) - 1 : Nat) : Int) = m2 at *
      go_wp2_with (go_at_call 44; refine (hh.out).mono ?_; rintro e w' ⟨rfl, rfl⟩)
      go_round
      case rel => exact ⟨k + 1, by omega, rfl, by rw [hm2]⟩
      case measure => simp [intOf]; omega
    · obtain rfl : k = n := by omega
      go_wp2
      go_ret
      exact ⟨rfl, rfl⟩
def iEnc (n : Int) : List Value := [.int .i64 n]
theorem iEnc_len (n : Int) : (iEnc n).length = 1 := rfl
theorem iEnc_one (n : Int) : ∀ u ∈ iEnc n, u.oneCell' = true := by
  intro u hu
  simp only [iEnc, List.mem_cons, List.not_mem_nil, or_false] at hu
  subst hu; rfl
theorem intRow : RowOf Tryd.prog 52 3 1 8 :=
  RowOf.mk' (z := .int .i64 0) Tryd.underlying52 (by kernel_rfl) (by decide) (by decide) rfl
theorem recs_int (w : World) (x : Int) (t : TypeId) : RecAt iEnc 1 (w.alloc (.cells #[.int .i64 x] t)) (w.alloc (.cells #[.int .i64 x] t)).heap.size (some ⟨w.heap.size, 0, none⟩) [x] := by
  intro _
  refine ⟨w.heap.size, 0, rfl, by simp, fun k y hk j u hu => ?_⟩
  have hk0 : k = 0 := by have := (List.getElem?_eq_some_iff.1 hk).1; simp at this; omega
  subst hk0
  obtain rfl : x = y := by simpa using hk
  match j, hu with
  | 0, hu => rw [show u = .int .i64 x from (Option.some.inj hu).symm]; simp
  | (j + 1), hu => simp [iEnc] at hu
def pEnc (g : Int × Int) : List Value := [.int .i64 g.1, .int .i64 g.2]
theorem pEnc_len (g : Int × Int) : (pEnc g).length = 2 := rfl
theorem pEnc_one (g : Int × Int) : ∀ u ∈ pEnc g, u.oneCell' = true := by
  intro u hu
  simp only [pEnc, List.mem_cons, List.not_mem_nil, or_false] at hu
  rcases hu with rfl | rfl <;> rfl
theorem recs_point (w : World) (x y : Int) (t : TypeId) : RecAt pEnc 2 (w.alloc (.cells #[.int .i64 x, .int .i64 y] t)) (w.alloc (.cells #[.int .i64 x, .int .i64 y] t)).heap.size (some ⟨w.heap.size, 0, none⟩) [(x, y)] := by
  intro _
  refine ⟨w.heap.size, 0, rfl, by simp, fun k z hk j u hu => ?_⟩
  have hk0 : k = 0 := by have := (List.getElem?_eq_some_iff.1 hk).1; simp at this; omega
  subst hk0
  obtain rfl : (x, y) = z := by simpa using hk
  match j, hu with
  | 0, hu => rw [show u = .int .i64 x from (Option.some.inj hu).symm]; simp
  | 1, hu => rw [show u = .int .i64 y from (Option.some.inj hu).symm]; simp
  | (j + 2), hu => simp [pEnc] at hu
section
variable {α : Type} {f : α → List Value} {size : Nat}
/-- a row of one's own; below the base nothing has turned -/
structure O1 (f : α → List Value) (size : Nat) (base : Nat) (e : TypeId) (w0 w : World) (A : Option Addr) (c : Nat) (l : List α) : Prop where
  own : Own1 f size base e w A c l
  below : Below base w0 w
  size : base ≤ w.heap.size
variable {base : Nat} {e : TypeId} {w0 w w' : World} {A A' : Option Addr} {c c' : Nat} {l l' : List α}
theorem O1.alloc (h : O1 f size base e w0 w A c l) (o : Obj) : O1 f size base e w0 (w.alloc o) A c l :=
  ⟨World.ownsRow.alloc h.own o, h.below.alloc h.size o, Nat.le_trans h.size (by simp)⟩
theorem O1.app (h : O1 f size base e w0 w A c l) (hown : w'.ownsRow base e size (.slice A' l'.length c') l'.length (flatR f l')) (hg : w.grownBy w' (Value.slice A l.length c).ownBlock) : O1 f size base e w0 w' A' c' l' :=
  ⟨hown, h.below.grown hg h.size (fun k hk => (World.ownsRow.lt h.own k hk).1), Nat.le_trans h.size hg.size⟩
theorem grown_of_below (hb : Below w.heap.size w w') : w.grownBy w' none := ⟨hb.os, hb.tape, hb.output, hb.size, fun k hk _ => hb.block k hk⟩
theorem O1.next (h : O1 f size base e w0 w A c l) (hb : Below w.heap.size w w') : O1 f size base e w0 w' A c l :=
  ⟨World.ownsRow.kept h.own (grown_of_below hb) (by cases hv : (Value.slice A l.length c).ownBlock <;> simp), h.below.trans (hb.mono h.size), Nat.le_trans h.size hb.size⟩
end
/-- the numbers below k -/
def iota (k : Nat) : List Int := (List.range k).map fun n : Nat => (n : Int)
theorem iota_len (k : Nat) : (iota k).length = k := by simp [iota]
theorem iota_succ (k : Nat) : iota k ++ [(k : Int)] = iota (k + 1) := by simp [iota, List.range_succ]
theorem iota_get (k j : Nat) (h : j < k) : (iota k)[j]? = some (j : Int) := by simp [iota, h]
set_option maxHeartbeats 1000000 in
theorem rall (f r : Int) (w : World) (hs : szB f r = true) : Calls Tryd.prog 32 #[.agg #[.int .i64 f, .int .i64 r]] w fun e w' => e = .returned (.int .u64 (allV f r : Nat)) ∧ Below w.heap.size w w' := by
  obtain ⟨f0, f1, r0, r1⟩ := szB_out hs
  obtain ⟨m0, m1⟩ := mul_bd f0 f1 r0 r1
  obtain ⟨n, hn⟩ : ∃ n : Nat, f * r = (n : Int) := ⟨(f * r).toNat, by omega⟩
  have hv : Hid (allV f r = 2 ^ n - 1) := by unfold allV Hid; rw [hn]; rfl
  have hK := Lib.hid (BK.first f r w 23)
  go_enter Tryd.func32, Tryd.ntmps32
  go_wp2
  generalize hw1 : w.alloc (.cells #[.int .i64 f, .int .i64 r] 23) = w1 at *
  have hlt := hK.out.lt
  go_loopw [3, 4] (fun s i wr => ∃ (k : Nat) (A : Option Addr) (c : Nat), k ≤ n ∧ i = .int .i64 k ∧ s = .slice A (iota k).length c ∧ Hid (O1 iEnc 1 (w.heap.size + 1) 3 w1 wr A c (iota k))) (fun _ i _ => n - (intOf i).toNat)
  case atStart => exact ⟨0, none, 0, by omega, rfl, rfl, ⟨owns_nil, Below.refl _ _, hlt⟩⟩
  case round =>
    obtain ⟨k, A, c, hk, rfl, rfl, hO⟩ := hrel
    have c0 := (hO.out.below.cell (p := ⟨w.heap.size, 0, none⟩) (Nat.lt_succ_self _)).trans hK.out.c0
    have c1 := (hO.out.below.cell (p := ⟨w.heap.size, 1, none⟩) (Nat.lt_succ_self _)).trans hK.out.c1
    have hl := Lib.hid (iota_len k)
    have hsu := Lib.hid (iota_succ k)
    by_cases hkn : k < n
    · go_wp2_with (at_builtin; refine wpList_append_recs intRow iEnc_len iEnc_one rfl _ _ rfl (w.heap.size + 1) A c (iota k) rfl (hO.out.alloc _).own _ 1 [(k : Int)] rfl (recs_int _ _ _) (by have := hl.out; simp; omega) (hO.out.alloc _).size ?_; intro A' c' w' hown hg _; rw [hsu.out] at hown ⊢; have hO' := Lib.hid ((hO.out.alloc _).app hown hg); clear hown hg)
      go_roundw
      case rel => exact ⟨k + 1, A', c', by omega, by go_num, rfl, hO'⟩
      case measure => simp [intOf]; omega
    · obtain rfl : k = n := by omega
      have hre := Lib.hid (RecAt.of_own iEnc_len rfl hO.out.own)
      obtain ⟨b, off, rfl, hb, hcc⟩ := hre.out (by rw [iota_len]; omega)
      have hcell : Hid (∀ j, j < k → wr.cell? ⟨b, off + j, none⟩ = some (.int .i64 (j : Int))) := fun j hj => by
        have := hcc j (j : Int) (iota_get k j hj) 0 (.int .i64 (j : Int)) rfl
        simpa using this
      clear hcc
      go_wp2_with (go_at_call 24; rw [hl.out]; refine (rof_all k b off c _ (by omega) hcell.out).mono ?_; rintro e w' ⟨rfl, rfl⟩)
      go_ret
      exact ⟨ri (by rw [hv.out]), hK.out.below.trans (hO.out.below.mono (by omega))⟩
theorem rhas (m k : Nat) (w : World) (hk : k < 64) : Calls Tryd.prog 44 #[.int .u64 (m : Int), .int .i64 (k : Int)] w fun e w' => e = .returned (.bool (m.testBit k)) ∧ w = w' := by
  have hd : (m : Int) / 2 ^ k = ((m / 2 ^ k : Nat) : Int) := by simp
  have hd' : (m : Int) / 2 ^ (k : Int).toNat = ((m / 2 ^ k : Nat) : Int) := by simp
  have ht := Nat.testBit_eq_decide_div_mod_eq (x := m) (i := k)
  generalize m / 2 ^ k = q at *
  rcases (by omega : q % 2 = 0 ∨ q % 2 = 1) with h | h
  · have hb : Hid (m.testBit k = false) := by unfold Hid; rw [ht]; simp [h]
    have h1 : (q : Int).tmod 2 = 0 := by rw [Int.tmod_eq_emod_of_nonneg (by omega)]; omega
    have h2 : (q : Int) % 2 = 0 := by omega
    clear ht
    go_enter Tryd.func44, Tryd.ntmps44
    go_wp2
    go_ret
    exact ⟨by rw [hb.out]; rfl, rfl⟩
  · have hb : Hid (m.testBit k = true) := by unfold Hid; rw [ht]; simp [h]
    have h1 : (q : Int).tmod 2 = 1 := by rw [Int.tmod_eq_emod_of_nonneg (by omega)]; omega
    have h2 : (q : Int) % 2 = 1 := by omega
    clear ht
    go_enter Tryd.func44, Tryd.ntmps44
    go_wp2
    go_ret
    exact ⟨by rw [hb.out]; rfl, rfl⟩
theorem or_bit_yes {acc a : Nat} (h : acc.testBit a = true) : acc ||| 1 <<< a = acc := by
  apply Nat.eq_of_testBit_eq
  intro i
  rw [Nat.one_shiftLeft, Nat.testBit_or, Nat.testBit_two_pow]
  by_cases hi : a = i
  · subst hi; rw [h]; simp
  · simp [hi]
theorem or_bit_no {acc a : Nat} (h : acc.testBit a = false) : acc + 2 ^ a = acc ||| 1 <<< a := by
  rw [Nat.one_shiftLeft]
  have key : ∀ (a acc : Nat), acc.testBit a = false → acc + 2 ^ a = acc ||| 2 ^ a := by
    intro a
    induction a with
    | zero =>
      intro acc h
      rw [Nat.testBit_zero] at h
      have h0 : acc % 2 = 0 := by simpa using h
      apply Nat.eq_of_testBit_eq
      intro i
      cases i with
      | zero => rw [Nat.testBit_zero, Nat.testBit_or, Nat.testBit_zero, Nat.testBit_zero]; simp; omega
      | succ i => rw [Nat.testBit_succ, Nat.testBit_or, Nat.testBit_succ, Nat.testBit_succ, show (acc + 2 ^ 0) / 2 = acc / 2 by simp; omega]; simp
    | succ a ih =>
      intro acc h
      rw [Nat.testBit_succ] at h
      have h2 := ih (acc / 2) h
      have h3 : 2 ^ (a + 1) = 2 * 2 ^ a := by rw [Nat.pow_succ, Nat.mul_comm]
      apply Nat.eq_of_testBit_eq
      intro i
      cases i with
      | zero => rw [Nat.testBit_zero, Nat.testBit_or, Nat.testBit_zero, Nat.testBit_zero, h3]; simp
      | succ i => rw [Nat.testBit_succ, Nat.testBit_or, Nat.testBit_succ, Nat.testBit_succ, h3, show (acc + 2 * 2 ^ a) / 2 = acc / 2 + 2 ^ a by omega, show 2 * 2 ^ a / 2 = 2 ^ a by omega, h2, Nat.testBit_or]
  exact key a acc h
set_option maxHeartbeats 1000000 in
theorem rof (l : List Int) (A : Option Addr) (cap : Nat) (w : World) (hlen : l.length < 1000) (hl : ∀ j, j < l.length → 0 ≤ l.getD j 0 ∧ l.getD j 0 < 64) (hc : RecAt iEnc 1 w w.heap.size A l) :
    Calls Tryd.prog 24 #[.slice A l.length cap] w fun e w' => e = .returned (.int .u64 (ofL l l.length : Nat)) ∧ w = w' := by
  have hltH := Lib.hid (ofL_lt hl)
  have hlH := Lib.hid hl
  have hcH := Lib.hid hc
  clear hc hl
  go_enter Tryd.func24, Tryd.ntmps24
  go_wp2
  go_loop [3, 4] (fun s i => ∃ k : Nat, k ≤ l.length ∧ i = .int .i64 k ∧ s = .int .u64 (ofL l k : Nat)) (fun _ i => l.length - (intOf i).toNat)
  case atStart => exact ⟨0, by omega, rfl, rfl⟩
  case round =>
    obtain ⟨k, hk, rfl, rfl⟩ := hrel
    by_cases hkn : k < l.length
    · obtain ⟨b, off, rfl, hb, hcc⟩ := hcH.out (by omega)
      have hget : l[k]? = some (l.getD k 0) := by rw [List.getD, List.getElem?_eq_getElem hkn]; rfl
      have hcell : w.cell? ⟨b, off + k, none⟩ = some (.int .i64 (l.getD k 0)) := by
        have := hcc k _ hget 0 (.int .i64 (l.getD k 0)) rfl
        simpa using this
      clear hcc
      obtain ⟨a0, a1⟩ := hlH.out k hkn
      have hsu := Lib.hid (ofL_succ hkn)
      have hlt1 := hltH.out k hk
      have hlt2 := hltH.out (k + 1) hkn
      obtain ⟨a, ha⟩ : ∃ a : Nat, l.getD k 0 = (a : Int) := ⟨(l.getD k 0).toNat, by omega⟩
      rw [ha] at hcell a0 a1 hsu
      clear ha hget
      have hh := Lib.hid (rhas (ofL l k) a w (by omega))
      cases hbit : (ofL l k).testBit a
      · have hs2 : Hid (ofL l k + 2 ^ a = ofL l (k + 1)) := by
          have h1 := hsu.out
          unfold Hid
          rw [h1, or_bit_no hbit]; rfl
        have hpw : (2 : Int) ^ a = ((2 ^ a : Nat) : Int) := by simp
        obtain ⟨P, hP⟩ : ∃ P : Nat, 2 ^ a = P := ⟨_, rfl⟩
        rw [hP] at hpw hs2
        have hs3 := hs2.out
        have hw1 : IntKind.u64.wrap (2 ^ (a : Int).toNat) = (P : Int) := by
          rw [Int.toNat_natCast, hpw, IntKind.wrap_u64]; omega
        have hw1' : IntKind.u64.wrap (2 ^ a) = (P : Int) := by
          rw [hpw, IntKind.wrap_u64]; omega
        have hw2 : IntKind.u64.wrap (((ofL l k : Nat) : Int) + (P : Int)) = (ofL l (k + 1) : Nat) := by
          rw [IntKind.wrap_u64]; omega
        clear hpw hs3
        rw [hbit] at hh
        clear hbit
        go_wp2_with (go_at_call 44; refine (hh.out).mono ?_; rintro e w' ⟨rfl, rfl⟩)
        go_round
        case rel => exact ⟨k + 1, by omega, rfl, vi (by first | rfl | rw [hw1', hw2] | rw [hw1, hw2])⟩
        case measure => simp [intOf]; omega
      · have hs2 : Hid (ofL l (k + 1) = ofL l k) := by
          have h1 := hsu.out
          unfold Hid
          rw [h1]; exact or_bit_yes hbit
        rw [hbit] at hh
        clear hbit
        go_wp2_with (go_at_call 44; refine (hh.out).mono ?_; rintro e w' ⟨rfl, rfl⟩)
        go_round
        case rel => exact ⟨k + 1, by omega, rfl, by rw [hs2.out]⟩
        case measure => simp [intOf]; omega
    · obtain rfl : k = l.length := by omega
      go_wp2
      go_ret
      exact ⟨rfl, rfl⟩
theorem list_eq {a b : ByteArray} (h : a.toList = b.toList) : a = b := by
  rw [ByteArray.toList_eq, ByteArray.toList_eq] at h
  obtain ⟨⟨a⟩⟩ := a
  obtain ⟨⟨b⟩⟩ := b
  simp only at h
  rw [h]
theorem list_ne {a b : ByteArray} (h : a ≠ b) : (a.toList == b.toList) = false := by
  rw [beq_eq_false_iff_ne]
  exact fun e => h (list_eq e)
/-- the first k of a list -/
def tk {α : Type} (k : Nat) (l : List α) : List α := l.take k
def sEnc (n : ByteArray) : List Value := [.string n]
theorem sEnc_len (n : ByteArray) : (sEnc n).length = 1 := rfl
theorem sEnc_one (n : ByteArray) : ∀ u ∈ sEnc n, u.oneCell' = true := by
  intro u hu
  simp only [sEnc, List.mem_cons, List.not_mem_nil, or_false] at hu
  subst hu; rfl
theorem strRow : RowOf Tryd.prog 66 9 1 16 :=
  RowOf.mk' (z := .string ⟨#[]⟩) Tryd.underlying66 (by kernel_rfl) (by decide) (by decide) rfl
theorem recs_str (w : World) (x : ByteArray) (t : TypeId) : RecAt sEnc 1 (w.alloc (.cells #[.string x] t)) (w.alloc (.cells #[.string x] t)).heap.size (some ⟨w.heap.size, 0, none⟩) [x] := by
  intro _
  refine ⟨w.heap.size, 0, rfl, by simp, fun k y hk j u hu => ?_⟩
  have hk0 : k = 0 := by have := (List.getElem?_eq_some_iff.1 hk).1; simp at this; omega
  subst hk0
  obtain rfl : x = y := by simpa using hk
  match j, hu with
  | 0, hu => rw [show u = .string x from (Option.some.inj hu).symm]; simp
  | (j + 1), hu => simp [sEnc] at hu
theorem own_cap {α : Type} {f : α → List Value} {size base : Nat} {e : TypeId} {w : World} {A : Option Addr} {c : Nat} {l : List α} (h : Own1 f size base e w A c l) (h0 : 0 < l.length) : l.length ≤ c := by
  rcases h.2 with ⟨_, h1⟩ | ⟨g, cap, cur, hv, _, _, hle, _⟩
  · omega
  · simp only [Value.slice.injEq] at hv
    obtain ⟨_, _, rfl⟩ := hv
    exact hle
theorem ba_eq {a b : ByteArray} (h : a.data.toList = b.data.toList) : a = b := by
  obtain ⟨⟨a⟩⟩ := a
  obtain ⟨⟨b⟩⟩ := b
  simp only at h
  rw [h]
theorem emp_ne {s : ByteArray} (h : s ≠ ⟨#[]⟩) : s.toList.isEmpty = false := by
  cases h2 : s.toList.isEmpty with
  | false => rfl
  | true => exact absurd (list_eq ((List.isEmpty_iff.1 h2).trans (by rw [ByteArray.toList_eq]))) h
/-- one more byte of a text: a blank begins a new word -/
def nextW (ws : List ByteArray) (c : UInt8) : List ByteArray := if c = 32 then ws ++ [⟨#[]⟩] else ws.dropLast ++ [ws.getLastD ⟨#[]⟩ ++ ⟨#[c]⟩]
theorem flatS (l : List ByteArray) : flatR sEnc l = l.map Value.string := by
  induction l with
  | nil => rfl
  | cons x l ih => show sEnc x ++ flatR sEnc l = _; rw [ih]; rfl
theorem O1.store {base : Nat} {e : TypeId} {w0 W : World} {A : Option Addr} {c : Nat} {pre : List ByteArray} {last : ByteArray} (h : O1 sEnc 1 base e w0 W A c (pre ++ [last])) (g : Nat) (hA : A = some ⟨g, 0, none⟩) (t : ByteArray) :
    O1 sEnc 1 base e w0 (W.setCell ⟨g, pre.length, none⟩ (.string t)) A c (pre ++ [t]) := by
  subst hA
  have ho := h.own
  obtain ⟨h1, h2⟩ := World.ownsRow.stored ho pre.length (.string t)
  have hgb := World.ownsRow.lt ho g rfl
  refine ⟨?_, h.below.grown h2 h.size (fun k hk => (World.ownsRow.lt ho k hk).1), Nat.le_trans h.size h2.size⟩
  unfold Own1
  have e1 : (pre ++ [t]).length = (pre ++ [last]).length := by simp
  rw [e1, flatS]
  rw [flatS] at h1
  have e2 : ((pre ++ [last]).map Value.string).set pre.length (.string t) = (pre ++ [t]).map Value.string := by
    rw [List.map_append, List.map_append, List.set_append_right _ _ (by simp)]
    simp
  rw [← e2]
  exact h1
theorem own_form {base : Nat} {e : TypeId} {W : World} {A : Option Addr} {c : Nat} {l : List ByteArray} (h : Own1 sEnc 1 base e W A c l) (h0 : 0 < l.length) : ∃ g, A = some ⟨g, 0, none⟩ ∧ base ≤ g := by
  rcases h.2 with ⟨_, h1⟩ | ⟨g, cap, cur, hv, hb, _⟩
  · omega
  · simp only [Value.slice.injEq] at hv
    exact ⟨g, hv.1, hb⟩
theorem ext_one (s : ByteArray) (k : Nat) (h : k < s.size) : s.extract k (k + 1) = ⟨#[s[k]'h]⟩ := by
  apply ba_eq
  rw [ByteArray.data_extract]
  have hd : k < s.data.size := h
  have : s.data.extract k (k + 1) = #[s.data[k]] := by
    refine Array.ext (by rw [Array.size_extract]; simp only [List.size_toArray, List.length_cons, List.length_nil]; omega) (fun i h1 h2 => ?_)
    have hi : i = 0 := by simp only [List.size_toArray, List.length_cons, List.length_nil] at h2; omega
    subst hi
    rw [Array.getElem_extract]
    rfl
  rw [this]
  rfl
theorem undrew {w w' : World} (hb : Below w.drew.heap.size w.drew w') : Below w.heap.size w w' := ⟨hb.os, hb.tape, hb.output, hb.size, hb.block⟩
end Go.Proofs.YtjglpphfkkabnaaDoor
