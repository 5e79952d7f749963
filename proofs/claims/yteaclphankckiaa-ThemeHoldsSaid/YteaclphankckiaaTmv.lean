/- Contracts of functions that another seat has proved already, over this program: XMa, XMc, XMd, XMe, XMf, XMg, XMh. -/
import Derived.StillTailTactics
import Derived.Deep.RegionHeld3
import Derived.Deep.DrawnRows
import Derived.Deep.DeepCutAuto
import Derived.Deep.CutRange
import Derived.Deep.LoopGhost
import Derived.Test.YteaclphankckiaaTsq
import Derived.Test.YteaclphankckiaaTpc
namespace Go.Proofs.Yteaclphankckiaa
open Go.RowKit
set_option linter.unusedSimpArgs false
set_option linter.unusedVariables false
/-- whether a move is valid on a board -/
def mvB (f r a b p : Int) : Bool := sqB f r a && (sqB f r b && decide (a ≠ b ∧ (p = 0 ∨ 2 ≤ p ∧ p ≤ 5)))
theorem mvB_out {f r a b p : Int} (h : mvB f r a b p = true) : sqB f r a = true ∧ sqB f r b = true ∧ a ≠ b ∧ (p = 0 ∨ 2 ≤ p ∧ p ≤ 5) := by
  unfold mvB at h
  rw [Bool.and_eq_true, Bool.and_eq_true] at h
  exact ⟨h.1, h.2.1, of_decide_eq_true h.2.2⟩
theorem mvB_a {f r a b p : Int} (h : sqB f r a = false) : mvB f r a b p = false := by unfold mvB; rw [h]; rfl
theorem mvB_b {f r a b p : Int} (h : sqB f r b = false) : mvB f r a b p = false := by unfold mvB; rw [h]; simp
theorem mvB_no {f r a b p : Int} (h : ¬ (a ≠ b ∧ (p = 0 ∨ 2 ≤ p ∧ p ≤ 5))) : mvB f r a b p = false := by unfold mvB; rw [decide_eq_false h]; simp
theorem mvB_yes {f r a b p : Int} (ha : sqB f r a = true) (hb : sqB f r b = true) (h : a ≠ b ∧ (p = 0 ∨ 2 ≤ p ∧ p ≤ 5)) : mvB f r a b p = true := by unfold mvB; rw [ha, hb, decide_eq_true h]; rfl
/-- the boxes of a size and a move lie in W as they lay -/
structure MB (f r a b p : Int) (w W : World) : Prop where
  c0 : W.cell? ⟨w.heap.size, 0, none⟩ = some (.int .i64 f)
  c1 : W.cell? ⟨w.heap.size, 1, none⟩ = some (.int .i64 r)
  m0 : W.cell? ⟨w.heap.size + 1, 0, none⟩ = some (.int .i64 a)
  m1 : W.cell? ⟨w.heap.size + 1, 1, none⟩ = some (.int .i64 b)
  m2 : W.cell? ⟨w.heap.size + 1, 2, none⟩ = some (.int .i8 p)
  lt : w.heap.size + 1 < W.heap.size
  below : Below w.heap.size w W
theorem MB.next {f r a b p : Int} {w W W' : World} (h : MB f r a b p w W) (hb : Below W.heap.size W W') : MB f r a b p w W' := by
  have hlt := h.lt
  exact ⟨(hb.cell (p := ⟨w.heap.size, 0, none⟩) (by show w.heap.size < _; omega)).trans h.c0, (hb.cell (p := ⟨w.heap.size, 1, none⟩) (by show w.heap.size < _; omega)).trans h.c1, (hb.cell (p := ⟨w.heap.size + 1, 0, none⟩) hlt).trans h.m0, (hb.cell (p := ⟨w.heap.size + 1, 1, none⟩) hlt).trans h.m1, (hb.cell (p := ⟨w.heap.size + 1, 2, none⟩) hlt).trans h.m2, Nat.lt_of_lt_of_le hlt hb.size, h.below.trans (hb.mono h.below.size)⟩
theorem MB.drew {f r a b p : Int} {w W : World} (h : MB f r a b p w W) : MB f r a b p w W.drew := ⟨h.c0, h.c1, h.m0, h.m1, h.m2, h.lt, h.below.drew⟩
theorem MB.drewN {f r a b p : Int} {w W : World} (h : MB f r a b p w W) (n : Nat) : MB f r a b p w (W.drewN n) := ⟨h.c0, h.c1, h.m0, h.m1, h.m2, h.lt, below_drewN h.below n⟩
theorem MB.first (f r a b p : Int) (w : World) (t t2 : TypeId) : MB f r a b p w ((w.alloc (.cells #[.int .i64 f, .int .i64 r] t)).alloc (.cells #[.int .i64 a, .int .i64 b, .int .i8 p] t2)) := by
  have z1 : (w.alloc (.cells #[.int .i64 f, .int .i64 r] t)).heap.size = w.heap.size + 1 := World.size_alloc _ _
  have h1 := heap_alloc_new w (.cells #[.int .i64 f, .int .i64 r] t)
  have h2 := heap_alloc_new (w.alloc (.cells #[.int .i64 f, .int .i64 r] t)) (.cells #[.int .i64 a, .int .i64 b, .int .i8 p] t2)
  rw [z1] at h2
  refine ⟨?_, ?_, ?_, ?_, ?_, by rw [World.size_alloc, z1]; omega, ((Below.refl _ _).alloc (Nat.le_refl _) _).alloc (by omega) _⟩
  · rw [World.cell?_alloc_lt _ _ ⟨w.heap.size, 0, none⟩ (by show w.heap.size < _; omega), cell_of_row _ _ _ _ _ _ h1]; rfl
  · rw [World.cell?_alloc_lt _ _ ⟨w.heap.size, 1, none⟩ (by show w.heap.size < _; omega), cell_of_row _ _ _ _ _ _ h1]; rfl
  · rw [cell_of_row _ _ _ _ _ _ h2]; rfl
  · rw [cell_of_row _ _ _ _ _ _ h2]; rfl
  · rw [cell_of_row _ _ _ _ _ _ h2]; rfl
def ordV (x y : Int) : Int := if x < y then -1 else if y < x then 1 else 0
/-- the order of two moves -/
def cmpV (a b p a' b' p' : Int) : Int := if a ≠ a' then ordV a a' else if b ≠ b' then ordV b b' else ordV p p'
theorem ordV_zero {x y : Int} : ordV x y = 0 ↔ x = y := by unfold ordV; split <;> (try split) <;> omega
theorem ordV_self (x : Int) : ordV x x = 0 := ordV_zero.2 rfl
set_option maxRecDepth 100000 in
theorem pmvalid (f r a b p : Int) (w : World) : Calls Try.prog 41 #[.agg #[.int .i64 f, .int .i64 r], .agg #[.int .i64 a, .int .i64 b, .int .i8 p]] w fun e w' => e = .returned (.bool (mvB f r a b p)) ∧ Below w.heap.size w w' := by
  have hK := Lib.hid (MB.first f r a b p w 23 57)
  have c0 := hK.out.c0
  have c1 := hK.out.c1
  have m0 := hK.out.m0
  have m1 := hK.out.m1
  have m2 := hK.out.m2
  rcases ha : sqB f r a with _ | _
  · have hv := Lib.hid (mvB_a (b := b) (p := p) ha)
    go_enter Try.func41, Try.ntmps41
    go_wp2_with (go_at_call 53; refine (pvalidsq _ _ _ _).mono ?_; rintro e w' ⟨rfl, hbw⟩; (first | rw [ha] | rw [hb]); replace hK := Lib.hid (hK.out.next hbw); replace c0 := hK.out.c0; replace c1 := hK.out.c1; replace m0 := hK.out.m0; replace m1 := hK.out.m1; replace m2 := hK.out.m2; clear hbw)
    go_ret
    exact ⟨by rw [hv.out]; rfl, hK.out.below⟩
  rcases hb : sqB f r b with _ | _
  · have hv := Lib.hid (mvB_b (a := a) (p := p) hb)
    go_enter Try.func41, Try.ntmps41
    go_wp2_with (go_at_call 53; refine (pvalidsq _ _ _ _).mono ?_; rintro e w' ⟨rfl, hbw⟩; (first | rw [ha] | rw [hb]); replace hK := Lib.hid (hK.out.next hbw); replace c0 := hK.out.c0; replace c1 := hK.out.c1; replace m0 := hK.out.m0; replace m1 := hK.out.m1; replace m2 := hK.out.m2; clear hbw)
    go_ret
    exact ⟨by rw [hv.out]; rfl, hK.out.below⟩
  by_cases h : a = b
  · have hv := Lib.hid (mvB_no (f := f) (r := r) (a := a) (b := b) (p := p) (by omega))
    have hn : (a != b) = false := by rw [bne_eq_false_iff_eq]; exact h
    clear h
    go_enter Try.func41, Try.ntmps41
    go_wp2_with (go_at_call 53; refine (pvalidsq _ _ _ _).mono ?_; rintro e w' ⟨rfl, hbw⟩; (first | rw [ha] | rw [hb]); replace hK := Lib.hid (hK.out.next hbw); replace c0 := hK.out.c0; replace c1 := hK.out.c1; replace m0 := hK.out.m0; replace m1 := hK.out.m1; replace m2 := hK.out.m2; clear hbw)
    go_ret
    exact ⟨by rw [hv.out]; rfl, hK.out.below⟩
  have hab : a ≠ b := h
  clear h
  by_cases h : p = 0
  · have hv := Lib.hid (mvB_yes (p := p) ha hb (by omega))
    have hn : (a != b) = true := by rw [bne_iff_ne]; exact hab
    have hp : (p == 0) = true := by rw [beq_iff_eq]; exact h
    clear h
    go_enter Try.func41, Try.ntmps41
    go_wp2_with (go_at_call 53; refine (pvalidsq _ _ _ _).mono ?_; rintro e w' ⟨rfl, hbw⟩; (first | rw [ha] | rw [hb]); replace hK := Lib.hid (hK.out.next hbw); replace c0 := hK.out.c0; replace c1 := hK.out.c1; replace m0 := hK.out.m0; replace m1 := hK.out.m1; replace m2 := hK.out.m2; clear hbw)
    go_ret
    exact ⟨by rw [hv.out]; rfl, hK.out.below⟩
  have hp0 : p ≠ 0 := h
  clear h
  by_cases h : p < 2
  · have hv := Lib.hid (mvB_no (f := f) (r := r) (a := a) (b := b) (p := p) (by omega))
    have hn : (a != b) = true := by rw [bne_iff_ne]; exact hab
    have hp : (p == 0) = false := by rw [beq_eq_false_iff_ne]; exact hp0
    clear hp0
    go_enter Try.func41, Try.ntmps41
    go_wp2_with (go_at_call 53; refine (pvalidsq _ _ _ _).mono ?_; rintro e w' ⟨rfl, hbw⟩; (first | rw [ha] | rw [hb]); replace hK := Lib.hid (hK.out.next hbw); replace c0 := hK.out.c0; replace c1 := hK.out.c1; replace m0 := hK.out.m0; replace m1 := hK.out.m1; replace m2 := hK.out.m2; clear hbw)
    go_ret
    exact ⟨by rw [hv.out]; rfl, hK.out.below⟩
  have hp2 : 2 ≤ p := by omega
  clear h
  by_cases h : 5 < p
  · have hq : decide (p ≤ 5) = false := decide_eq_false (by omega)
    have hv := Lib.hid (mvB_no (f := f) (r := r) (a := a) (b := b) (p := p) (by omega))
    have hn : (a != b) = true := by rw [bne_iff_ne]; exact hab
    have hp : (p == 0) = false := by rw [beq_eq_false_iff_ne]; exact hp0
    clear hp0
    go_enter Try.func41, Try.ntmps41
    go_wp2_with (go_at_call 53; refine (pvalidsq _ _ _ _).mono ?_; rintro e w' ⟨rfl, hbw⟩; (first | rw [ha] | rw [hb]); replace hK := Lib.hid (hK.out.next hbw); replace c0 := hK.out.c0; replace c1 := hK.out.c1; replace m0 := hK.out.m0; replace m1 := hK.out.m1; replace m2 := hK.out.m2; clear hbw)
    go_ret
    exact ⟨by rw [hv.out]; rfl, hK.out.below⟩
  have hp5 : p ≤ 5 := by omega
  clear h
  have hv := Lib.hid (mvB_yes (p := p) ha hb (by omega))
  have hn : (a != b) = true := by rw [bne_iff_ne]; exact hab
  have hp : (p == 0) = false := by rw [beq_eq_false_iff_ne]; exact hp0
  clear hp0
  go_enter Try.func41, Try.ntmps41
  go_wp2_with (go_at_call 53; refine (pvalidsq _ _ _ _).mono ?_; rintro e w' ⟨rfl, hbw⟩; (first | rw [ha] | rw [hb]); replace hK := Lib.hid (hK.out.next hbw); replace c0 := hK.out.c0; replace c1 := hK.out.c1; replace m0 := hK.out.m0; replace m1 := hK.out.m1; replace m2 := hK.out.m2; clear hbw)
  go_ret
  exact ⟨by rw [hv.out]; rfl, hK.out.below⟩
set_option maxRecDepth 100000 in
theorem rmvalid (f r a b p : Int) (w : World) : Calls Try.prog 58 #[.agg #[.int .i64 f, .int .i64 r], .agg #[.int .i64 a, .int .i64 b, .int .i8 p]] w fun e w' => e = .returned (.bool (mvB f r a b p)) ∧ Below w.heap.size w w' := by
  have hK := Lib.hid (MB.first f r a b p w 23 57)
  have c0 := hK.out.c0
  have c1 := hK.out.c1
  have m0 := hK.out.m0
  have m1 := hK.out.m1
  have m2 := hK.out.m2
  rcases ha : sqB f r a with _ | _
  · have hv := Lib.hid (mvB_a (b := b) (p := p) ha)
    go_enter Try.func58, Try.ntmps58
    go_wp2_with (go_at_call 64; refine (rvalidsq _ _ _ _).mono ?_; rintro e w' ⟨rfl, hbw⟩; (first | rw [ha] | rw [hb]); replace hK := Lib.hid (hK.out.next hbw); replace c0 := hK.out.c0; replace c1 := hK.out.c1; replace m0 := hK.out.m0; replace m1 := hK.out.m1; replace m2 := hK.out.m2; clear hbw)
    go_ret
    exact ⟨by rw [hv.out]; rfl, hK.out.below⟩
  rcases hb : sqB f r b with _ | _
  · have hv := Lib.hid (mvB_b (a := a) (p := p) hb)
    go_enter Try.func58, Try.ntmps58
    go_wp2_with (go_at_call 64; refine (rvalidsq _ _ _ _).mono ?_; rintro e w' ⟨rfl, hbw⟩; (first | rw [ha] | rw [hb]); replace hK := Lib.hid (hK.out.next hbw); replace c0 := hK.out.c0; replace c1 := hK.out.c1; replace m0 := hK.out.m0; replace m1 := hK.out.m1; replace m2 := hK.out.m2; clear hbw)
    go_ret
    exact ⟨by rw [hv.out]; rfl, hK.out.below⟩
  by_cases h : a = b
  · have hv := Lib.hid (mvB_no (f := f) (r := r) (a := a) (b := b) (p := p) (by omega))
    have hn : (a != b) = false := by rw [bne_eq_false_iff_eq]; exact h
    clear h
    go_enter Try.func58, Try.ntmps58
    go_wp2_with (go_at_call 64; refine (rvalidsq _ _ _ _).mono ?_; rintro e w' ⟨rfl, hbw⟩; (first | rw [ha] | rw [hb]); replace hK := Lib.hid (hK.out.next hbw); replace c0 := hK.out.c0; replace c1 := hK.out.c1; replace m0 := hK.out.m0; replace m1 := hK.out.m1; replace m2 := hK.out.m2; clear hbw)
    go_ret
    exact ⟨by rw [hv.out]; rfl, hK.out.below⟩
  have hab : a ≠ b := h
  clear h
  by_cases h : p = 0
  · have hv := Lib.hid (mvB_yes (p := p) ha hb (by omega))
    have hn : (a != b) = true := by rw [bne_iff_ne]; exact hab
    have hp : (p == 0) = true := by rw [beq_iff_eq]; exact h
    clear h
    go_enter Try.func58, Try.ntmps58
    go_wp2_with (go_at_call 64; refine (rvalidsq _ _ _ _).mono ?_; rintro e w' ⟨rfl, hbw⟩; (first | rw [ha] | rw [hb]); replace hK := Lib.hid (hK.out.next hbw); replace c0 := hK.out.c0; replace c1 := hK.out.c1; replace m0 := hK.out.m0; replace m1 := hK.out.m1; replace m2 := hK.out.m2; clear hbw)
    go_ret
    exact ⟨by rw [hv.out]; rfl, hK.out.below⟩
  have hp0 : p ≠ 0 := h
  clear h
  by_cases h : p < 2
  · have hv := Lib.hid (mvB_no (f := f) (r := r) (a := a) (b := b) (p := p) (by omega))
    have hn : (a != b) = true := by rw [bne_iff_ne]; exact hab
    have hp : (p == 0) = false := by rw [beq_eq_false_iff_ne]; exact hp0
    clear hp0
    go_enter Try.func58, Try.ntmps58
    go_wp2_with (go_at_call 64; refine (rvalidsq _ _ _ _).mono ?_; rintro e w' ⟨rfl, hbw⟩; (first | rw [ha] | rw [hb]); replace hK := Lib.hid (hK.out.next hbw); replace c0 := hK.out.c0; replace c1 := hK.out.c1; replace m0 := hK.out.m0; replace m1 := hK.out.m1; replace m2 := hK.out.m2; clear hbw)
    go_ret
    exact ⟨by rw [hv.out]; rfl, hK.out.below⟩
  have hp2 : 2 ≤ p := by omega
  clear h
  by_cases h : 5 < p
  · have hq : decide (p ≤ 5) = false := decide_eq_false (by omega)
    have hv := Lib.hid (mvB_no (f := f) (r := r) (a := a) (b := b) (p := p) (by omega))
    have hn : (a != b) = true := by rw [bne_iff_ne]; exact hab
    have hp : (p == 0) = false := by rw [beq_eq_false_iff_ne]; exact hp0
    clear hp0
    go_enter Try.func58, Try.ntmps58
    go_wp2_with (go_at_call 64; refine (rvalidsq _ _ _ _).mono ?_; rintro e w' ⟨rfl, hbw⟩; (first | rw [ha] | rw [hb]); replace hK := Lib.hid (hK.out.next hbw); replace c0 := hK.out.c0; replace c1 := hK.out.c1; replace m0 := hK.out.m0; replace m1 := hK.out.m1; replace m2 := hK.out.m2; clear hbw)
    go_ret
    exact ⟨by rw [hv.out]; rfl, hK.out.below⟩
  have hp5 : p ≤ 5 := by omega
  clear h
  have hv := Lib.hid (mvB_yes (p := p) ha hb (by omega))
  have hn : (a != b) = true := by rw [bne_iff_ne]; exact hab
  have hp : (p == 0) = false := by rw [beq_eq_false_iff_ne]; exact hp0
  clear hp0
  go_enter Try.func58, Try.ntmps58
  go_wp2_with (go_at_call 64; refine (rvalidsq _ _ _ _).mono ?_; rintro e w' ⟨rfl, hbw⟩; (first | rw [ha] | rw [hb]); replace hK := Lib.hid (hK.out.next hbw); replace c0 := hK.out.c0; replace c1 := hK.out.c1; replace m0 := hK.out.m0; replace m1 := hK.out.m1; replace m2 := hK.out.m2; clear hbw)
  go_ret
  exact ⟨by rw [hv.out]; rfl, hK.out.below⟩
/-- the boxes of two moves lie in W as they lay -/
structure MM (a b p a' b' p' : Int) (w W : World) : Prop where
  m0 : W.cell? ⟨w.heap.size, 0, none⟩ = some (.int .i64 a)
  m1 : W.cell? ⟨w.heap.size, 1, none⟩ = some (.int .i64 b)
  m2 : W.cell? ⟨w.heap.size, 2, none⟩ = some (.int .i8 p)
  n0 : W.cell? ⟨w.heap.size + 1, 0, none⟩ = some (.int .i64 a')
  n1 : W.cell? ⟨w.heap.size + 1, 1, none⟩ = some (.int .i64 b')
  n2 : W.cell? ⟨w.heap.size + 1, 2, none⟩ = some (.int .i8 p')
theorem MM.first (a b p a' b' p' : Int) (w : World) (t t2 : TypeId) : MM a b p a' b' p' w ((w.alloc (.cells #[.int .i64 a, .int .i64 b, .int .i8 p] t)).alloc (.cells #[.int .i64 a', .int .i64 b', .int .i8 p'] t2)) := by
  have z1 : (w.alloc (.cells #[.int .i64 a, .int .i64 b, .int .i8 p] t)).heap.size = w.heap.size + 1 := World.size_alloc _ _
  have h1 := heap_alloc_new w (.cells #[.int .i64 a, .int .i64 b, .int .i8 p] t)
  have h2 := heap_alloc_new (w.alloc (.cells #[.int .i64 a, .int .i64 b, .int .i8 p] t)) (.cells #[.int .i64 a', .int .i64 b', .int .i8 p'] t2)
  rw [z1] at h2
  refine ⟨?_, ?_, ?_, ?_, ?_, ?_⟩
  · rw [World.cell?_alloc_lt _ _ ⟨w.heap.size, 0, none⟩ (by show w.heap.size < _; omega), cell_of_row _ _ _ _ _ _ h1]; rfl
  · rw [World.cell?_alloc_lt _ _ ⟨w.heap.size, 1, none⟩ (by show w.heap.size < _; omega), cell_of_row _ _ _ _ _ _ h1]; rfl
  · rw [World.cell?_alloc_lt _ _ ⟨w.heap.size, 2, none⟩ (by show w.heap.size < _; omega), cell_of_row _ _ _ _ _ _ h1]; rfl
  · rw [cell_of_row _ _ _ _ _ _ h2]; rfl
  · rw [cell_of_row _ _ _ _ _ _ h2]; rfl
  · rw [cell_of_row _ _ _ _ _ _ h2]; rfl
theorem below_two (w : World) (o o' : Obj) : Below w.heap.size w ((w.alloc o).alloc o') := ((Below.refl _ _).alloc (Nat.le_refl _) o).alloc (by simp) o'
/-- the first number that is not zero -/
def orV (x y z : Int) : Int := if x ≠ 0 then x else if y ≠ 0 then y else z
theorem orV_x {x y z : Int} (h : x ≠ 0) : orV x y z = x := if_pos h
theorem orV_y {x y z : Int} (h : x = 0) (h2 : y ≠ 0) : orV x y z = y := by unfold orV; rw [if_neg (by simpa using h), if_pos h2]
theorem orV_z {x y z : Int} (h : x = 0) (h2 : y = 0) : orV x y z = z := by unfold orV; rw [if_neg (by simpa using h), if_neg (by simpa using h2)]
theorem orV_cmp (a b p a' b' p' : Int) : orV (ordV a a') (ordV b b') (ordV p p') = cmpV a b p a' b' p' := by
  unfold orV cmpV
  simp only [ne_eq, ordV_zero]
/-- the name of a square, the letter of a promotion, the text of a move -/
def nsq (f a : Int) : ByteArray := nm (a % f) (a / f)
def lb (p : Int) : UInt8 := bx (PC.letV p)
def mvT (f a b p : Int) : ByteArray := if p = 0 then nsq f a ++ nsq f b else nsq f a ++ nsq f b ++ ⟨#[lb p]⟩
theorem mvT_zero (f a b : Int) : mvT f a b 0 = nsq f a ++ nsq f b := rfl
theorem mvT_pos (f a b : Int) {p : Int} (h : p ≠ 0) : mvT f a b p = nsq f a ++ nsq f b ++ ⟨#[lb p]⟩ := if_neg h
theorem lb_of (p : Int) : PC.letV p = ((lb p).toNat : Int) := bx_of (PC.letV_bd p).1 (by have := (PC.letV_bd p).2; omega)
theorem rs2 {a b : ByteArray} {c : Value} (h : a = b) : Ending.returned (.tuple #[.string a, c]) = .returned (.tuple #[.string b, c]) := by rw [h]
theorem undrew {w w' : World} (hb : Below w.drew.heap.size w.drew w') : Below w.heap.size w w' := ⟨hb.os, hb.tape, hb.output, hb.size, hb.block⟩
theorem ext_N (k : Nat) (h : k < 4) : (ByteArray.mk #[78, 66, 82, 81]).extract k (k + 1) = ⟨#[lb ((k : Int) + 2)]⟩ := by
  match k, h with
  | 0, _ => rfl
  | 1, _ => rfl
  | 2, _ => rfl
  | 3, _ => rfl
/-- the boxes of a size and of a move that is not set yet lie in W as they lay -/
structure PR (f r : Int) (w W : World) : Prop where
  mb : MB f r 0 0 0 w W
  fr : ∀ i : Nat, W.frozen? ⟨w.heap.size + 1, i, none⟩ = false
theorem PR.next {f r : Int} {w W W' : World} (h : PR f r w W) (hb : Below W.heap.size W W') : PR f r w W' :=
  ⟨h.mb.next hb, fun i => (hb.frozen (p := ⟨w.heap.size + 1, i, none⟩) h.mb.lt).trans (h.fr i)⟩
theorem PR.drew {f r : Int} {w W : World} (h : PR f r w W) : PR f r w W.drew := ⟨h.mb.drew, h.fr⟩
theorem PR.first (f r : Int) (w : World) (t t2 : TypeId) : PR f r w ((w.alloc (.cells #[.int .i64 f, .int .i64 r] t)).alloc (.cells #[.int .i64 0, .int .i64 0, .int .i8 0] t2)) := by
  refine ⟨MB.first f r 0 0 0 w t t2, fun i => ?_⟩
  have z1 : (w.alloc (.cells #[.int .i64 f, .int .i64 r] t)).heap.size = w.heap.size + 1 := World.size_alloc _ _
  have h2 := heap_alloc_new (w.alloc (.cells #[.int .i64 f, .int .i64 r] t)) (.cells #[.int .i64 0, .int .i64 0, .int .i8 0] t2)
  rw [z1] at h2
  simp only [World.frozen?]
  rw [h2]
  rfl
theorem PR.far {f r : Int} {w W : World} {B i : Nat} {v : Value} (h : PR f r w W) (hB : w.heap.size + 1 < B) : PR f r w (W.setCell ⟨B, i, none⟩ v) := by
  have e : ∀ (n j : Nat), n ≤ w.heap.size + 1 → (W.setCell ⟨B, i, none⟩ v).cell? ⟨n, j, none⟩ = W.cell? ⟨n, j, none⟩ := fun n j hn => World.cell?_setCell_far _ _ _ _ (by show B ≠ n; omega)
  exact ⟨⟨(e _ _ (by omega)).trans h.mb.c0, (e _ _ (by omega)).trans h.mb.c1, (e _ _ (by omega)).trans h.mb.m0, (e _ _ (by omega)).trans h.mb.m1, (e _ _ (by omega)).trans h.mb.m2, by rw [nblk_set]; exact h.mb.lt, h.mb.below.setCell (p := ⟨B, i, none⟩) (by show w.heap.size ≤ B; omega) _⟩, fun j => by rw [World.frozen?_setCell]; exact h.fr j⟩
/-- what lay in the two boxes lies there behind a store elsewhere -/
theorem PR.keep {f r : Int} {w W W' : World} (h : PR f r w W) (hb : Below (w.heap.size + 1 + 1) W W') : PR f r w W' :=
  ⟨⟨(hb.cell (p := ⟨w.heap.size, 0, none⟩) (by show w.heap.size < _; omega)).trans h.mb.c0, (hb.cell (p := ⟨w.heap.size, 1, none⟩) (by show w.heap.size < _; omega)).trans h.mb.c1, (hb.cell (p := ⟨w.heap.size + 1, 0, none⟩) (by show w.heap.size + 1 < _; omega)).trans h.mb.m0, (hb.cell (p := ⟨w.heap.size + 1, 1, none⟩) (by show w.heap.size + 1 < _; omega)).trans h.mb.m1, (hb.cell (p := ⟨w.heap.size + 1, 2, none⟩) (by show w.heap.size + 1 < _; omega)).trans h.mb.m2, Nat.lt_of_lt_of_le h.mb.lt hb.size, h.mb.below.trans (hb.mono (by omega))⟩, fun i => (hb.frozen (p := ⟨w.heap.size + 1, i, none⟩) (by show w.heap.size + 1 < _; omega)).trans (h.fr i)⟩
/-- the move that is read lies in block B -/
structure PM (f r x y p : Int) (B : Nat) (w W : World) : Prop where
  pr : PR f r w W
  k0 : W.cell? ⟨B, 0, none⟩ = some (.int .i64 x)
  k1 : W.cell? ⟨B, 1, none⟩ = some (.int .i64 y)
  k2 : W.cell? ⟨B, 2, none⟩ = some (.int .i8 p)
  fk : ∀ i : Nat, W.frozen? ⟨B, i, none⟩ = false
  lt : B < W.heap.size
  gt : w.heap.size + 1 < B
theorem PM.of {f r : Int} {w W : World} {B : Nat} {x y p : Int} (h : PR f r w W) (ht : Tri W B (.int .i64 x) (.int .i64 y) (.int .i8 p)) (hB : w.heap.size + 1 < B) : PM f r x y p B w W := ⟨h, ht.c0, ht.c1, ht.c2, ht.fr, ht.lt, hB⟩
theorem PM.next {f r x y p : Int} {B : Nat} {w W W' : World} (h : PM f r x y p B w W) (hb : Below W.heap.size W W') : PM f r x y p B w W' :=
  ⟨h.pr.next hb, (hb.cell (p := ⟨B, 0, none⟩) h.lt).trans h.k0, (hb.cell (p := ⟨B, 1, none⟩) h.lt).trans h.k1, (hb.cell (p := ⟨B, 2, none⟩) h.lt).trans h.k2, fun i => (hb.frozen (p := ⟨B, i, none⟩) h.lt).trans (h.fk i), Nat.lt_of_lt_of_le h.lt hb.size, h.gt⟩
theorem PM.drew {f r x y p : Int} {B : Nat} {w W : World} (h : PM f r x y p B w W) : PM f r x y p B w W.drew := ⟨h.pr.drew, h.k0, h.k1, h.k2, h.fk, h.lt, h.gt⟩
theorem PR.drewN {f r : Int} {w W : World} (h : PR f r w W) (n : Nat) : PR f r w (W.drewN n) := ⟨h.mb.drewN n, h.fr⟩
theorem PM.drewN {f r x y p : Int} {B : Nat} {w W : World} (h : PM f r x y p B w W) (n : Nat) : PM f r x y p B w (W.drewN n) := ⟨h.pr.drewN n, h.k0, h.k1, h.k2, h.fk, h.lt, h.gt⟩
theorem PM.first {f r : Int} {w W : World} (h : PR f r w W) (t : TypeId) : PM f r 0 0 0 W.heap.size w (W.alloc (.cells #[.int .i64 0, .int .i64 0, .int .i8 0] t)) := by
  have h2 := heap_alloc_new W (.cells #[.int .i64 0, .int .i64 0, .int .i8 0] t)
  refine ⟨h.next ((Below.refl _ _).alloc (Nat.le_refl _) _), ?_, ?_, ?_, fun i => ?_, by rw [World.size_alloc]; omega, h.mb.lt⟩
  · rw [cell_of_row _ _ _ _ _ _ h2]; rfl
  · rw [cell_of_row _ _ _ _ _ _ h2]; rfl
  · rw [cell_of_row _ _ _ _ _ _ h2]; rfl
  · simp only [World.frozen?]
    rw [h2]
    rfl
theorem PM.set0 {f r x y p : Int} {B : Nat} {w W : World} (h : PM f r x y p B w W) (v : Int) : PM f r v y p B w (W.setCell ⟨B, 0, none⟩ (.int .i64 v)) :=
  ⟨h.pr.far h.gt, World.cell?_setCell_same' _ _ _ (by rw [h.k0]; rfl), (cell_off _ _ _ _ _ (by decide)).trans h.k1, (cell_off _ _ _ _ _ (by decide)).trans h.k2, fun i => by rw [World.frozen?_setCell]; exact h.fk i, by rw [nblk_set]; exact h.lt, h.gt⟩
theorem PM.set1 {f r x y p : Int} {B : Nat} {w W : World} (h : PM f r x y p B w W) (v : Int) : PM f r x v p B w (W.setCell ⟨B, 1, none⟩ (.int .i64 v)) :=
  ⟨h.pr.far h.gt, (cell_off _ _ _ _ _ (by decide)).trans h.k0, World.cell?_setCell_same' _ _ _ (by rw [h.k1]; rfl), (cell_off _ _ _ _ _ (by decide)).trans h.k2, fun i => by rw [World.frozen?_setCell]; exact h.fk i, by rw [nblk_set]; exact h.lt, h.gt⟩
theorem PM.set2 {f r x y p : Int} {B : Nat} {w W : World} (h : PM f r x y p B w W) (v : Int) : PM f r x y v B w (W.setCell ⟨B, 2, none⟩ (.int .i8 v)) :=
  ⟨h.pr.far h.gt, (cell_off _ _ _ _ _ (by decide)).trans h.k0, (cell_off _ _ _ _ _ (by decide)).trans h.k1, World.cell?_setCell_same' _ _ _ (by rw [h.k2]; rfl), fun i => by rw [World.frozen?_setCell]; exact h.fk i, by rw [nblk_set]; exact h.lt, h.gt⟩
/-- whether a text that has been read in parts is that of a move; what is returned then -/
def mok (f r a b p E1 E2 G : Int) : Bool := decide (E1 = 0 ∧ E2 = 0 ∧ G = 0) && mvB f r a b p
def mres (ok : Bool) (a b p : Int) : Value := if ok then .tuple #[.agg #[.int .i64 a, .int .i64 b, .int .i8 p], .int .i64 0] else .tuple #[.agg #[.int .i64 0, .int .i64 0, .int .i8 0], .int .i64 6]
theorem mok_e {f r a b p E1 E2 G : Int} (h : ¬ (E1 = 0 ∧ E2 = 0 ∧ G = 0)) : mok f r a b p E1 E2 G = false := by unfold mok; rw [decide_eq_false h]; rfl
theorem mok_v {f r a b p E1 E2 G : Int} (h : E1 = 0 ∧ E2 = 0 ∧ G = 0) : mok f r a b p E1 E2 G = mvB f r a b p := by unfold mok; rw [decide_eq_true h]; rfl
/-- the square with a name, of the reference; -1: there is none -/
def rpV (f r : Int) (t : ByteArray) : Int := match (List.range 64).find? (fun k : Nat => sqB f r (k : Int) && ((nm ((k : Int) % f) ((k : Int) / f)).data.toList == t.data.toList)) with
  | some k => (k : Int)
  | none => -1
theorem ba_eq {a b : ByteArray} (h : a.data.toList = b.data.toList) : a = b := by
  obtain ⟨⟨a⟩⟩ := a
  obtain ⟨⟨b⟩⟩ := b
  simp only at h
  rw [h]
theorem rpV_yes {f r n : Int} {t : ByteArray} (h : sqB f r n = true) (hn : nm (n % f) (n / f) = t) : rpV f r t = n := by
  obtain ⟨hs, n0, n1⟩ := sqB_out h
  obtain ⟨f0, f1, r0, r1⟩ := szB_out hs
  have hm := (mul_bd f0 f1 r0 r1).2
  unfold rpV
  split
  · rename_i k hk
    have hp := List.find?_some hk
    simp only [Bool.and_eq_true, beq_iff_eq] at hp
    exact nm_sq hp.1 h ((ba_eq hp.2).trans hn.symm)
  · rename_i hk
    rw [List.find?_eq_none] at hk
    have := hk n.toNat (List.mem_range.2 (by omega))
    rw [show ((n.toNat : Nat) : Int) = n by omega] at this
    rw [h, hn] at this
    simp at this
theorem rpV_no {f r : Int} {t : ByteArray} (h : ∀ n : Int, sqB f r n = true → nm (n % f) (n / f) ≠ t) : rpV f r t = -1 := by
  unfold rpV
  split
  · rename_i k hk
    have hp := List.find?_some hk
    simp only [Bool.and_eq_true, beq_iff_eq] at hp
    exact absurd (ba_eq hp.2) (h _ hp.1)
  · rfl
theorem rsp (f r : Int) (t : ByteArray) (w : World) (hs : szB f r = true) : Calls Try.prog 66 #[.agg #[.int .i64 f, .int .i64 r], .string t] w fun e w' => e = .returned (.int .i64 (rpV f r t)) ∧ Below w.heap.size w w' := by
  by_cases h : ∃ n : Int, sqB f r n = true ∧ nm (n % f) (n / f) = t
  · obtain ⟨n, hn, ht⟩ := h
    rw [rpV_yes hn ht]
    exact rparse_yes f r n t w hn ht
  · have h' : ∀ n : Int, sqB f r n = true → nm (n % f) (n / f) ≠ t := fun n hn ht => h ⟨n, hn, ht⟩
    rw [rpV_no h']
    exact rparse_no f r t w hs h'
def rres (ok : Bool) (a b p : Int) : Value := if ok then .tuple #[.agg #[.int .i64 a, .int .i64 b, .int .i8 p], .bool true] else .tuple #[.agg #[.int .i64 0, .int .i64 0, .int .i8 0], .bool false]
/-- the promotion with a letter among the first ones, of the reference -/
def Ln (n : Nat) : UInt8 := [78, 66, 82, 81].getD n 0
def pk (c : UInt8) : Nat → Int
  | 0 => 0
  | n + 1 => if c = Ln n then (n : Int) + 2 else pk c n
def plV (c : UInt8) : Int := pk c 4
def pkI (c : UInt8) (q : Int) : Int := pk c (q.toNat - 2)
theorem ln_eq (n : Nat) (h : n < 4) (c : UInt8) : (((⟨#[78, 66, 82, 81]⟩ : ByteArray).extract n (n + 1)).toList == [c]) = decide (c = Ln n) := by
  have e : ((⟨#[78, 66, 82, 81]⟩ : ByteArray).extract n (n + 1)).toList = [Ln n] := by
    rw [ByteArray.toList_eq]
    match n, h with
    | 0, _ => rfl
    | 1, _ => rfl
    | 2, _ => rfl
    | 3, _ => rfl
  rw [e, Bool.eq_iff_iff]
  simp only [beq_iff_eq, List.cons.injEq, and_true, decide_eq_true_eq]
  exact eq_comm
theorem s_two {w W W' : World} {f r : Int} (c0 : W.cell? ⟨w.heap.size, 0, none⟩ = some (.int .i64 f)) (c1 : W.cell? ⟨w.heap.size, 1, none⟩ = some (.int .i64 r)) (h : Below (w.heap.size + 1 + 1) W W') :
    W'.cell? ⟨w.heap.size, 0, none⟩ = some (.int .i64 f) ∧ W'.cell? ⟨w.heap.size, 1, none⟩ = some (.int .i64 r) :=
  ⟨(h.cell (p := ⟨w.heap.size, 0, none⟩) (by show w.heap.size < _; omega)).trans c0, (h.cell (p := ⟨w.heap.size, 1, none⟩) (by show w.heap.size < _; omega)).trans c1⟩
theorem rmp_len (f r : Int) (s : ByteArray) (w : World) (h : s.size < 4 ∨ (4 ≤ s.size ∧ 5 < s.size)) (hm : s.size ≤ maxLen) : Calls Try.prog 61 #[.agg #[.int .i64 f, .int .i64 r], .string s] w fun e w' => e = .returned (.tuple #[.agg #[.int .i64 0, .int .i64 0, .int .i8 0], .bool false]) ∧ Below w.heap.size w w' := by
  unfold maxLen at hm
  have hK := Lib.hid (PR.first f r w 23 57)
  have m0 := hK.out.mb.m0
  have m1 := hK.out.mb.m1
  have m2 := hK.out.mb.m2
  have f0 := hK.out.fr 0
  have f1 := hK.out.fr 1
  have f2 := hK.out.fr 2
  have hS := Lib.hid (set3 m0 m1 m2 (.int .i64 0) (.int .i64 0) (.int .i8 0))
  rcases h with h | h
  all_goals
    go_enter Try.func61, Try.ntmps61
    go_wp2_with fail
    obtain ⟨s0, s1, s2⟩ := hS.out
    exact bodyPost_ret (v := .tuple #[.agg #[.int .i64 0, .int .i64 0, .int .i8 0], .bool false]) (by simp [results, Try.results61, go_sem, s0, s1, s2]) rfl ⟨rfl, by first | exact hK.out.mb.below | exact below_set3 hK.out.mb.below (by omega) _ _ _⟩
set_option maxRecDepth 100000 in
set_option maxHeartbeats 1000000 in
theorem rmp4 (f r a b : Int) (s t1 t2 : ByteArray) (w : World) (hs : szB f r = true) (hsz : s.size = 4) (hx1 : s.extract 0 2 = t1) (hx2 : s.extract 2 4 = t2) (ha : rpV f r t1 = a) (hb : rpV f r t2 = b) :
    Calls Try.prog 61 #[.agg #[.int .i64 f, .int .i64 r], .string s] w fun e w' => e = .returned (rres (mvB f r a b 0) a b 0) ∧ Below w.heap.size w w' := by
  have hK := Lib.hid (PR.first f r w 23 57)
  have c0 := hK.out.mb.c0
  have c1 := hK.out.mb.c1
  have m0 := hK.out.mb.m0
  have m1 := hK.out.mb.m1
  have m2 := hK.out.mb.m2
  have f0 := hK.out.fr 0
  have f1 := hK.out.fr 1
  have f2 := hK.out.fr 2
  have hsH := Lib.hid hs
  clear hs
  go_enter Try.func61, Try.ntmps61
  go_upto_region 3 with fail
  clear m0 m1 m2 f0 f1 f2
  generalize (w.alloc (.cells #[.int .i64 f, .int .i64 r] 23)).alloc (.cells #[.int .i64 0, .int .i64 0, .int .i8 0] 57) = W at *
  go_cut [6] from 100 (fun s6 wc => ∃ Bm : Nat, s6 = .pointer (some ⟨Bm, 0, none⟩) ∧ Hid (PM f r a b 0 Bm w wc))
  case first =>
    have hW2 : w.heap.size + 1 < W.heap.size := hK.out.mb.lt
    go_region_held3 (fun w' => w'.cell? ⟨w.heap.size, 0, none⟩ = some (.int .i64 f) ∧ w'.cell? ⟨w.heap.size, 1, none⟩ = some (.int .i64 r)) (exact s_two c0 c1 (by (repeat (first | exact Below.refl _ _ | exact hX2.out | exact hX1.out | refine Below.drew ?_ | refine Below.alloc ?_ (by first | omega | (simp only [World.size_setCell, World.size_alloc, World.size_drew]; omega)) _ | refine Below.setCell ?_ (by first | omega | (dsimp only; omega)) _))))
      (first
      | (go_at_call 66; refine (rsp _ _ _ _ hsH.out).mono ?_; rintro e w1 ⟨rfl, hb1⟩; rw [ha]; have hs1 := hb1.size; (try simp only [World.size_alloc, World.size_drew] at hs1); have hX1 : Hid (Below (w.heap.size + 1 + 1) W w1) := Below.trans (by (repeat (first | exact Below.refl _ _ | exact hX2.out | exact hX1.out | refine Below.drew ?_ | refine Below.alloc ?_ (by first | omega | (simp only [World.size_setCell, World.size_alloc, World.size_drew]; omega)) _ | refine Below.setCell ?_ (by first | omega | (dsimp only; omega)) _))) (hb1.mono (by first | omega | (simp only [World.size_setCell, World.size_alloc, World.size_drew]; omega))); (first | (have hq1 := Lib.hid ((tri_new W.drew W.heap.size _ _ _ _ rfl).next hb1); have k0 := hq1.out.c0; have k1 := hq1.out.c1; have k2 := hq1.out.c2; have g0 := hq1.out.fr 0; have g1 := hq1.out.fr 1; have g2 := hq1.out.fr 2) | skip); clear hb1)
      | (go_at_call 66; refine (rsp _ _ _ _ hsH.out).mono ?_; rintro e w2 ⟨rfl, hb2⟩; rw [hb]; have hs2 := hb2.size; (try simp only [World.size_alloc, World.size_drew] at hs2); have hX2 : Hid (Below (w.heap.size + 1 + 1) W w2) := Below.trans (by (repeat (first | exact Below.refl _ _ | exact hX2.out | exact hX1.out | refine Below.drew ?_ | refine Below.alloc ?_ (by first | omega | (simp only [World.size_setCell, World.size_alloc, World.size_drew]; omega)) _ | refine Below.setCell ?_ (by first | omega | (dsimp only; omega)) _))) (hb2.mono (by first | omega | (simp only [World.size_setCell, World.size_alloc, World.size_drew]; omega))); (first | (have hq2 := Lib.hid (hq1.out.next hb2); replace k0 := hq2.out.c0; replace k1 := hq2.out.c1; replace k2 := hq2.out.c2; replace g0 := hq2.out.fr 0; replace g1 := hq2.out.fr 1; replace g2 := hq2.out.fr 2) | (have hq2 := Lib.hid ((tri_new w1 w1.heap.size _ _ _ _ rfl).next hb2); have k0 := hq2.out.c0; have k1 := hq2.out.c1; have k2 := hq2.out.c2; have g0 := hq2.out.fr 0; have g1 := hq2.out.fr 1; have g2 := hq2.out.fr 2) | skip); clear hb2))
    all_goals
      go_wp2_with fail
      go_meet
      refine ⟨_, rfl, PM.of (hK.out.keep (by (repeat (first | exact Below.refl _ _ | exact hX2.out | exact hX1.out | refine Below.drew ?_ | refine Below.alloc ?_ (by first | omega | (simp only [World.size_setCell, World.size_alloc, World.size_drew]; omega)) _ | refine Below.setCell ?_ (by first | omega | (dsimp only; omega)) _)))) ?_ ?_⟩
      · (repeat (first | exact tri_new _ _ _ _ _ _ (by first | rfl | omega | (simp only [World.size_setCell, World.size_alloc, World.size_drew]; done)) | exact hq2.out | exact hq1.out | exact Tri.set hq2.out _ _ _ | exact Tri.set hq1.out _ _ _ | refine Tri.alloc ?_ _ | refine Tri.drew ?_))
      · first | omega | (simp only [World.size_setCell, World.size_alloc, World.size_drew]; omega)
  case rest =>
    clear hK c0 c1
    obtain ⟨Bm, rfl, hM⟩ := hcut
    have c0 := hM.out.pr.mb.c0
    have c1 := hM.out.pr.mb.c1
    have k0 := hM.out.k0
    have k1 := hM.out.k1
    have k2 := hM.out.k2
    have m0 := hM.out.pr.mb.m0
    have m1 := hM.out.pr.mb.m1
    have m2 := hM.out.pr.mb.m2
    have f0 := hM.out.pr.fr 0
    have f1 := hM.out.pr.fr 1
    have f2 := hM.out.pr.fr 2
    rcases hv : mvB f r a b 0 with _ | _
    · go_wp2_with (go_at_call 58; refine (rmvalid _ _ _ _ _ _).mono ?_; rintro e w5 ⟨rfl, hbw⟩; rw [hv]; replace hM := Lib.hid (hM.out.next hbw); replace c0 := hM.out.pr.mb.c0; replace c1 := hM.out.pr.mb.c1; replace k0 := hM.out.k0; replace k1 := hM.out.k1; replace k2 := hM.out.k2; replace m0 := hM.out.pr.mb.m0; replace m1 := hM.out.pr.mb.m1; replace m2 := hM.out.pr.mb.m2; replace f0 := hM.out.pr.fr 0; replace f1 := hM.out.pr.fr 1; replace f2 := hM.out.pr.fr 2; clear hbw)
      obtain ⟨s0, s1, s2⟩ := set3 m0 m1 m2 (.int .i64 0) (.int .i64 0) (.int .i8 0)
      exact bodyPost_ret (v := .tuple #[.agg #[.int .i64 0, .int .i64 0, .int .i8 0], .bool false]) (by simp [results, Try.results61, go_sem, s0, s1, s2]) rfl ⟨by rw [hv]; rfl, below_set3 hM.out.pr.mb.below (by omega) _ _ _⟩
    · go_wp2_with (go_at_call 58; refine (rmvalid _ _ _ _ _ _).mono ?_; rintro e w5 ⟨rfl, hbw⟩; rw [hv]; replace hM := Lib.hid (hM.out.next hbw); replace c0 := hM.out.pr.mb.c0; replace c1 := hM.out.pr.mb.c1; replace k0 := hM.out.k0; replace k1 := hM.out.k1; replace k2 := hM.out.k2; replace m0 := hM.out.pr.mb.m0; replace m1 := hM.out.pr.mb.m1; replace m2 := hM.out.pr.mb.m2; replace f0 := hM.out.pr.fr 0; replace f1 := hM.out.pr.fr 1; replace f2 := hM.out.pr.fr 2; clear hbw)
      obtain ⟨s0, s1, s2⟩ := set3 m0 m1 m2 (.int .i64 a) (.int .i64 b) (.int .i8 0)
      exact bodyPost_ret (v := .tuple #[.agg #[.int .i64 a, .int .i64 b, .int .i8 0], .bool true]) (by simp [results, Try.results61, go_sem, s0, s1, s2]) rfl ⟨by rw [hv]; rfl, below_set3 hM.out.pr.mb.below (by omega) _ _ _⟩
set_option maxRecDepth 100000 in
set_option maxHeartbeats 1000000 in
theorem rmp5 (f r a b : Int) (s t1 t2 : ByteArray) (w : World) (hs : szB f r = true) (hsz : s.size = 5) (hx1 : s.extract 0 2 = t1) (hx2 : s.extract 2 4 = t2) (ha : rpV f r t1 = a) (hb : rpV f r t2 = b) (c : UInt8) (hx3 : s.extract 4 5 = ⟨#[c]⟩) :
    Calls Try.prog 61 #[.agg #[.int .i64 f, .int .i64 r], .string s] w fun e w' => e = .returned (rres (decide (plV c ≠ 0) && mvB f r a b (plV c)) a b (plV c)) ∧ Below w.heap.size w w' := by
  obtain ⟨R, hR⟩ : ∃ R, rres (decide (plV c ≠ 0) && mvB f r a b (plV c)) a b (plV c) = R := ⟨_, rfl⟩
  rw [hR]
  replace hR := Lib.hid hR
  have hK := Lib.hid (PR.first f r w 23 57)
  have c0 := hK.out.mb.c0
  have c1 := hK.out.mb.c1
  have m0 := hK.out.mb.m0
  have m1 := hK.out.mb.m1
  have m2 := hK.out.mb.m2
  have f0 := hK.out.fr 0
  have f1 := hK.out.fr 1
  have f2 := hK.out.fr 2
  have hsH := Lib.hid hs
  clear hs
  go_enter Try.func61, Try.ntmps61
  go_upto_region 3 with fail
  clear m0 m1 m2 f0 f1 f2
  generalize (w.alloc (.cells #[.int .i64 f, .int .i64 r] 23)).alloc (.cells #[.int .i64 0, .int .i64 0, .int .i8 0] 57) = W at *
  go_cut [6] from 100 (fun s6 wc => ∃ Bm : Nat, s6 = .pointer (some ⟨Bm, 0, none⟩) ∧ Hid (PM f r a b 0 Bm w wc))
  case first =>
    have hW2 : w.heap.size + 1 < W.heap.size := hK.out.mb.lt
    go_region_held3 (fun w' => w'.cell? ⟨w.heap.size, 0, none⟩ = some (.int .i64 f) ∧ w'.cell? ⟨w.heap.size, 1, none⟩ = some (.int .i64 r)) (exact s_two c0 c1 (by (repeat (first | exact Below.refl _ _ | exact hX2.out | exact hX1.out | refine Below.drew ?_ | refine Below.alloc ?_ (by first | omega | (simp only [World.size_setCell, World.size_alloc, World.size_drew]; omega)) _ | refine Below.setCell ?_ (by first | omega | (dsimp only; omega)) _))))
      (first
      | (go_at_call 66; refine (rsp _ _ _ _ hsH.out).mono ?_; rintro e w1 ⟨rfl, hb1⟩; rw [ha]; have hs1 := hb1.size; (try simp only [World.size_alloc, World.size_drew] at hs1); have hX1 : Hid (Below (w.heap.size + 1 + 1) W w1) := Below.trans (by (repeat (first | exact Below.refl _ _ | exact hX2.out | exact hX1.out | refine Below.drew ?_ | refine Below.alloc ?_ (by first | omega | (simp only [World.size_setCell, World.size_alloc, World.size_drew]; omega)) _ | refine Below.setCell ?_ (by first | omega | (dsimp only; omega)) _))) (hb1.mono (by first | omega | (simp only [World.size_setCell, World.size_alloc, World.size_drew]; omega))); (first | (have hq1 := Lib.hid ((tri_new W.drew W.heap.size _ _ _ _ rfl).next hb1); have k0 := hq1.out.c0; have k1 := hq1.out.c1; have k2 := hq1.out.c2; have g0 := hq1.out.fr 0; have g1 := hq1.out.fr 1; have g2 := hq1.out.fr 2) | skip); clear hb1)
      | (go_at_call 66; refine (rsp _ _ _ _ hsH.out).mono ?_; rintro e w2 ⟨rfl, hb2⟩; rw [hb]; have hs2 := hb2.size; (try simp only [World.size_alloc, World.size_drew] at hs2); have hX2 : Hid (Below (w.heap.size + 1 + 1) W w2) := Below.trans (by (repeat (first | exact Below.refl _ _ | exact hX2.out | exact hX1.out | refine Below.drew ?_ | refine Below.alloc ?_ (by first | omega | (simp only [World.size_setCell, World.size_alloc, World.size_drew]; omega)) _ | refine Below.setCell ?_ (by first | omega | (dsimp only; omega)) _))) (hb2.mono (by first | omega | (simp only [World.size_setCell, World.size_alloc, World.size_drew]; omega))); (first | (have hq2 := Lib.hid (hq1.out.next hb2); replace k0 := hq2.out.c0; replace k1 := hq2.out.c1; replace k2 := hq2.out.c2; replace g0 := hq2.out.fr 0; replace g1 := hq2.out.fr 1; replace g2 := hq2.out.fr 2) | (have hq2 := Lib.hid ((tri_new w1 w1.heap.size _ _ _ _ rfl).next hb2); have k0 := hq2.out.c0; have k1 := hq2.out.c1; have k2 := hq2.out.c2; have g0 := hq2.out.fr 0; have g1 := hq2.out.fr 1; have g2 := hq2.out.fr 2) | skip); clear hb2))
    all_goals
      go_wp2_with fail
      go_meet
      refine ⟨_, rfl, PM.of (hK.out.keep (by (repeat (first | exact Below.refl _ _ | exact hX2.out | exact hX1.out | refine Below.drew ?_ | refine Below.alloc ?_ (by first | omega | (simp only [World.size_setCell, World.size_alloc, World.size_drew]; omega)) _ | refine Below.setCell ?_ (by first | omega | (dsimp only; omega)) _)))) ?_ ?_⟩
      · (repeat (first | exact tri_new _ _ _ _ _ _ (by first | rfl | omega | (simp only [World.size_setCell, World.size_alloc, World.size_drew]; done)) | exact hq2.out | exact hq1.out | exact Tri.set hq2.out _ _ _ | exact Tri.set hq1.out _ _ _ | refine Tri.alloc ?_ _ | refine Tri.drew ?_))
      · first | omega | (simp only [World.size_setCell, World.size_alloc, World.size_drew]; omega)
  case rest =>
    clear hK c0 c1
    obtain ⟨Bm, rfl, hM⟩ := hcut
    have c0 := hM.out.pr.mb.c0
    have c1 := hM.out.pr.mb.c1
    have k0 := hM.out.k0
    have k1 := hM.out.k1
    have k2 := hM.out.k2
    have m0 := hM.out.pr.mb.m0
    have m1 := hM.out.pr.mb.m1
    have m2 := hM.out.pr.mb.m2
    have f0 := hM.out.pr.fr 0
    have f1 := hM.out.pr.fr 1
    have f2 := hM.out.pr.fr 2
    clear c0 c1 k0 k1 k2 m0 m1 m2 f0 f1 f2
    go_wp2_with fail
    go_loopw [7] (fun p7 wr => ∃ q : Int, 2 ≤ q ∧ q ≤ 6 ∧ p7 = .int .i8 q ∧ Hid (PM f r a b (pkI c q) Bm w wr)) (fun i _ => (6 - intOf i).toNat)
    case atStart => exact ⟨2, by omega, by omega, rfl, hM⟩
    case round =>
      clear hM
      obtain ⟨q, hq0, hq1, rfl, hM⟩ := hrel
      by_cases hlt : q < 6
      · obtain ⟨n, hn, rfl⟩ : ∃ n : Nat, n < 4 ∧ q = (n : Int) + 2 := ⟨q.toNat - 2, by omega, by omega⟩
        have hnext : Hid (pkI c ((n : Int) + 2 + 1) = if c = Ln n then (n : Int) + 2 else pkI c ((n : Int) + 2)) := by
          show _ = _
          unfold pkI
          rw [show ((n : Int) + 2 + 1).toNat - 2 = n + 1 by omega, show ((n : Int) + 2).toNat - 2 = n by omega]
          rfl
        have heq := ln_eq n hn c
        have k2 := hM.out.k2
        have g2 := hM.out.fk 2
        generalize hQ1 : pkI c ((n : Int) + 2 + 1) = P' at hnext
        replace hQ1 := Lib.hid hQ1
        generalize pkI c ((n : Int) + 2) = P0 at *
        by_cases hcm : c = Ln n
        · have hP : Hid (P' = (n : Int) + 2) := by rw [hnext.out, if_pos hcm]; rfl
          rw [decide_eq_true hcm] at heq
          clear hcm hnext
          go_wp2_with fail
          go_quiet (fail)
          go_wp2_with fail
          go_ways
          go_roundw
          case rel => exact ⟨(n : Int) + 2 + 1, by omega, by omega, rfl, by rw [hQ1.out, hP.out]; exact Lib.hid ((hM.out.drewN _).set2 ((n : Int) + 2))⟩
          case measure => simp [intOf]; omega
        · have hP : Hid (P' = P0) := by rw [hnext.out, if_neg hcm]; rfl
          rw [decide_eq_false hcm] at heq
          clear hcm hnext
          go_wp2_with fail
          go_quiet (fail)
          go_wp2_with fail
          go_ways
          go_roundw
          case rel => exact ⟨(n : Int) + 2 + 1, by omega, by omega, rfl, by rw [hQ1.out, hP.out]; exact Lib.hid (hM.out.drewN _)⟩
          case measure => simp [intOf]; omega
      · obtain rfl : q = 6 := by omega
        have hpl : Hid (plV c = pkI c 6) := rfl
        have c0 := hM.out.pr.mb.c0
        have c1 := hM.out.pr.mb.c1
        have k0 := hM.out.k0
        have k1 := hM.out.k1
        have k2 := hM.out.k2
        have m0 := hM.out.pr.mb.m0
        have m1 := hM.out.pr.mb.m1
        have m2 := hM.out.pr.mb.m2
        have f0 := hM.out.pr.fr 0
        have f1 := hM.out.pr.fr 1
        have f2 := hM.out.pr.fr 2
        generalize pkI c 6 = P at *
        by_cases hP0 : P = 0
        · have hP1 : (P == 0) = true := by rw [beq_iff_eq]; exact hP0
          have hr : Hid (R = .tuple #[.agg #[.int .i64 0, .int .i64 0, .int .i8 0], .bool false]) := by show _ = _; rw [← hR.out, hpl.out, hP0]; rfl
          clear hP0
          go_wp2_with fail
          obtain ⟨s0, s1, s2⟩ := set3 m0 m1 m2 (.int .i64 0) (.int .i64 0) (.int .i8 0)
          exact bodyPost_ret (v := .tuple #[.agg #[.int .i64 0, .int .i64 0, .int .i8 0], .bool false]) (by simp [results, Try.results61, go_sem, s0, s1, s2]) rfl ⟨congrArg Ending.returned hr.out.symm, below_set3 hM.out.pr.mb.below (by omega) _ _ _⟩
        · have hP1 : (P == 0) = false := by rw [beq_eq_false_iff_ne]; exact hP0
          have hd : Hid ((decide (plV c ≠ 0) && mvB f r a b (plV c)) = mvB f r a b P) := by show _ = _; rw [hpl.out, decide_eq_true hP0]; rfl
          clear hP0
          rcases hv : mvB f r a b P with _ | _
          · have hr : Hid (R = .tuple #[.agg #[.int .i64 0, .int .i64 0, .int .i8 0], .bool false]) := by show _ = _; rw [← hR.out, hd.out, hv]; rfl
            go_wp2_with (go_at_call 58; refine (rmvalid _ _ _ _ _ _).mono ?_; rintro e w5 ⟨rfl, hbw⟩; rw [hv]; replace hM := Lib.hid (hM.out.next hbw); replace c0 := hM.out.pr.mb.c0; replace c1 := hM.out.pr.mb.c1; replace k0 := hM.out.k0; replace k1 := hM.out.k1; replace k2 := hM.out.k2; replace m0 := hM.out.pr.mb.m0; replace m1 := hM.out.pr.mb.m1; replace m2 := hM.out.pr.mb.m2; replace f0 := hM.out.pr.fr 0; replace f1 := hM.out.pr.fr 1; replace f2 := hM.out.pr.fr 2; clear hbw)
            obtain ⟨s0, s1, s2⟩ := set3 m0 m1 m2 (.int .i64 0) (.int .i64 0) (.int .i8 0)
            exact bodyPost_ret (v := .tuple #[.agg #[.int .i64 0, .int .i64 0, .int .i8 0], .bool false]) (by simp [results, Try.results61, go_sem, s0, s1, s2]) rfl ⟨congrArg Ending.returned hr.out.symm, below_set3 hM.out.pr.mb.below (by omega) _ _ _⟩
          · have hr : Hid (R = .tuple #[.agg #[.int .i64 a, .int .i64 b, .int .i8 P], .bool true]) := by show _ = _; rw [← hR.out, hd.out, hv, hpl.out]; rfl
            go_wp2_with (go_at_call 58; refine (rmvalid _ _ _ _ _ _).mono ?_; rintro e w5 ⟨rfl, hbw⟩; rw [hv]; replace hM := Lib.hid (hM.out.next hbw); replace c0 := hM.out.pr.mb.c0; replace c1 := hM.out.pr.mb.c1; replace k0 := hM.out.k0; replace k1 := hM.out.k1; replace k2 := hM.out.k2; replace m0 := hM.out.pr.mb.m0; replace m1 := hM.out.pr.mb.m1; replace m2 := hM.out.pr.mb.m2; replace f0 := hM.out.pr.fr 0; replace f1 := hM.out.pr.fr 1; replace f2 := hM.out.pr.fr 2; clear hbw)
            obtain ⟨s0, s1, s2⟩ := set3 m0 m1 m2 (.int .i64 a) (.int .i64 b) (.int .i8 P)
            exact bodyPost_ret (v := .tuple #[.agg #[.int .i64 a, .int .i64 b, .int .i8 P], .bool true]) (by simp [results, Try.results61, go_sem, s0, s1, s2]) rfl ⟨congrArg Ending.returned hr.out.symm, below_set3 hM.out.pr.mb.below (by omega) _ _ _⟩
/-- the move with a text: whether there is one, and its parts -/
def mvS (f r : Int) (s : ByteArray) : Bool × Int × Int × Int :=
  if s.size = 4 then (mvB f r (rpV f r (s.extract 0 2)) (rpV f r (s.extract 2 4)) 0, rpV f r (s.extract 0 2), rpV f r (s.extract 2 4), 0)
  else if s.size = 5 then (decide (plV (s.data.getD 4 0) ≠ 0) && mvB f r (rpV f r (s.extract 0 2)) (rpV f r (s.extract 2 4)) (plV (s.data.getD 4 0)), rpV f r (s.extract 0 2), rpV f r (s.extract 2 4), plV (s.data.getD 4 0))
  else (false, 0, 0, 0)
theorem mvS_no {f r : Int} {s : ByteArray} (h4 : s.size ≠ 4) (h5 : s.size ≠ 5) : mvS f r s = (false, 0, 0, 0) := by unfold mvS; rw [if_neg h4, if_neg h5]
theorem mvS_4 {f r : Int} {s : ByteArray} (h4 : s.size = 4) : mvS f r s = (mvB f r (rpV f r (s.extract 0 2)) (rpV f r (s.extract 2 4)) 0, rpV f r (s.extract 0 2), rpV f r (s.extract 2 4), 0) := by unfold mvS; rw [if_pos h4]
theorem mvS_5 {f r : Int} {s : ByteArray} (h5 : s.size = 5) : mvS f r s = (decide (plV (s.data.getD 4 0) ≠ 0) && mvB f r (rpV f r (s.extract 0 2)) (rpV f r (s.extract 2 4)) (plV (s.data.getD 4 0)), rpV f r (s.extract 0 2), rpV f r (s.extract 2 4), plV (s.data.getD 4 0)) := by
  unfold mvS; rw [if_neg (by omega), if_pos h5]
theorem four_of (s : ByteArray) (h : s.size = 4) : ∃ x y z u, s = ⟨#[x, y, z, u]⟩ := by
  obtain ⟨⟨l⟩⟩ := s
  match l, h with
  | [x, y, z, u], _ => exact ⟨x, y, z, u, rfl⟩
theorem five_of (s : ByteArray) (h : s.size = 5) : ∃ x y z u c, s = ⟨#[x, y, z, u, c]⟩ := by
  obtain ⟨⟨l⟩⟩ := s
  match l, h with
  | [x, y, z, u, c], _ => exact ⟨x, y, z, u, c, rfl⟩
theorem ex4 (x y z u : UInt8) : (⟨#[x, y, z, u]⟩ : ByteArray).extract 0 2 = ⟨#[x, y]⟩ ∧ (⟨#[x, y, z, u]⟩ : ByteArray).extract 2 4 = ⟨#[z, u]⟩ := ⟨ba_eq (by rw [ByteArray.data_extract]; rfl), ba_eq (by rw [ByteArray.data_extract]; rfl)⟩
theorem ex5 (x y z u c : UInt8) : (⟨#[x, y, z, u, c]⟩ : ByteArray).extract 0 2 = ⟨#[x, y]⟩ ∧ (⟨#[x, y, z, u, c]⟩ : ByteArray).extract 2 4 = ⟨#[z, u]⟩ ∧ (⟨#[x, y, z, u, c]⟩ : ByteArray).extract 4 5 = ⟨#[c]⟩ := ⟨ba_eq (by rw [ByteArray.data_extract]; rfl), ba_eq (by rw [ByteArray.data_extract]; rfl), ba_eq (by rw [ByteArray.data_extract]; rfl)⟩
theorem sqB_neg {f r : Int} : sqB f r (-1) = false := by
  cases h : sqB f r (-1) with
  | false => rfl
  | true => have := (sqB_out h).2.1; omega
/-- what a byte stands for as a promotion -/
theorem pl_par : ∀ n : Nat, n < 256 → plV (UInt8.ofNat n) = if 2 ≤ PC.parV (n : Int) ∧ PC.parV (n : Int) ≤ 5 then PC.parV (n : Int) else 0 := by decide +kernel
theorem pl_par' (c : UInt8) : plV c = if 2 ≤ PC.parV (c.toNat : Int) ∧ PC.parV (c.toNat : Int) ≤ 5 then PC.parV (c.toNat : Int) else 0 := by
  have := pl_par c.toNat c.toNat_lt
  rw [UInt8.ofNat_toNat] at this
  exact this
theorem mres_no (a b p a' b' p' : Int) : mres false a b p = mres false a' b' p' := rfl
/-- the program's Parse at two squares that may lack -/
theorem mok_link {f r a b A B E1 E2 p : Int} (h1 : (sqB f r a = true ∧ A = a ∧ E1 = 0) ∨ (a = -1 ∧ E1 = 6)) (h2 : (sqB f r b = true ∧ B = b ∧ E2 = 0) ∨ (b = -1 ∧ E2 = 6)) : mres (mok f r A B p E1 E2 0) A B p = mres (mvB f r a b p) a b p := by
  rcases h1 with ⟨_, rfl, rfl⟩ | ⟨rfl, rfl⟩
  · rcases h2 with ⟨_, rfl, rfl⟩ | ⟨rfl, rfl⟩
    · rw [mok_v ⟨rfl, rfl, rfl⟩]
    · rw [mok_e (by omega), mvB_b sqB_neg]; rfl
  · rw [mok_e (by omega), mvB_a sqB_neg]; rfl
theorem rmp (f r : Int) (s : ByteArray) (w : World) (hs : szB f r = true) (hm : s.size ≤ maxLen) : Calls Try.prog 61 #[.agg #[.int .i64 f, .int .i64 r], .string s] w fun e w' => e = .returned (rres (mvS f r s).1 (mvS f r s).2.1 (mvS f r s).2.2.1 (mvS f r s).2.2.2) ∧ Below w.heap.size w w' := by
  by_cases h4 : s.size = 4
  · rw [mvS_4 h4]
    exact rmp4 f r _ _ s _ _ w hs h4 rfl rfl rfl rfl
  by_cases h5 : s.size = 5
  · rw [mvS_5 h5]
    refine rmp5 f r _ _ s _ _ w hs h5 rfl rfl rfl rfl _ ?_
    obtain ⟨x, y, z, u, c, rfl⟩ := five_of s h5
    exact (ex5 x y z u c).2.2
  · rw [mvS_no h4 h5]
    exact rmp_len f r s w (by omega) hm
end Go.Proofs.Yteaclphankckiaa
