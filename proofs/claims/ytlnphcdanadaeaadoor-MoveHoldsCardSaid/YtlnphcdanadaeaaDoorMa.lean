/- Layer 7: which moves are valid; the order of two moves. -/
import Derived.Test.YtlnphcdanadaeaaDoorMsq
import Derived.Test.YtlnphcdanadaeaaDoorMpc
import Derived.StillTailTactics
import Derived.Shelf.Small.Wraps
namespace Go.Proofs.YtlnphcdanadaeaaDoor
open Go.RowKit
set_option linter.unusedSimpArgs false
set_option linter.unusedVariables false

/-- whether a move is valid on a board -/
def mvB (f r a b p : Int) : Bool := sqB f r a && (sqB f r b && decide (a ≠ b ∧ (p = 0 ∨ 2 ≤ p ∧ p ≤ 5)))
theorem mvB_out {f r a b p : Int} (h : mvB f r a b p = true) : sqB f r a = true ∧ sqB f r b = true ∧ a ≠ b ∧ (p = 0 ∨ 2 ≤ p ∧ p ≤ 5) := by
  unfold mvB at h
  rw [Bool.and_eq_true, Bool.and_eq_true] at h
  exact ⟨h.1, h.2.1, of_decide_eq_true h.2.2⟩
theorem mvB_a {f r a b p : Int} (h : sqB f r a = false) : mvB f r a b p = false := by unfold mvB; rw [h]; rfl
theorem mvB_b {f r a b p : Int} (h : sqB f r b = false) : mvB f r a b p = false := by unfold mvB; rw [h]; simp
theorem mvB_no {f r a b p : Int} (h : ¬ (a ≠ b ∧ (p = 0 ∨ 2 ≤ p ∧ p ≤ 5))) : mvB f r a b p = false := by unfold mvB; rw [decide_eq_false h]; simp
theorem mvB_yes {f r a b p : Int} (ha : sqB f r a = true) (hb : sqB f r b = true) (h : a ≠ b ∧ (p = 0 ∨ 2 ≤ p ∧ p ≤ 5)) : mvB f r a b p = true := by unfold mvB; rw [ha, hb, decide_eq_true h]; rfl

/-- the boxes of a size and a move lie in W as they lay -/
structure MB (f r a b p : Int) (w W : World) : Prop where
  c0 : W.cell? ⟨w.heap.size, 0, none⟩ = some (.int .i64 f)
  c1 : W.cell? ⟨w.heap.size, 1, none⟩ = some (.int .i64 r)
  m0 : W.cell? ⟨w.heap.size + 1, 0, none⟩ = some (.int .i64 a)
  m1 : W.cell? ⟨w.heap.size + 1, 1, none⟩ = some (.int .i64 b)
  m2 : W.cell? ⟨w.heap.size + 1, 2, none⟩ = some (.int .i8 p)
  lt : w.heap.size + 1 < W.heap.size
  below : Below w.heap.size w W
theorem MB.next {f r a b p : Int} {w W W' : World} (h : MB f r a b p w W) (hb : Below W.heap.size W W') : MB f r a b p w W' := by
  have hlt := h.lt
  exact ⟨(hb.cell (p := ⟨w.heap.size, 0, none⟩) (by show w.heap.size < _; omega)).trans h.c0, (hb.cell (p := ⟨w.heap.size, 1, none⟩) (by show w.heap.size < _; omega)).trans h.c1, (hb.cell (p := ⟨w.heap.size + 1, 0, none⟩) hlt).trans h.m0, (hb.cell (p := ⟨w.heap.size + 1, 1, none⟩) hlt).trans h.m1, (hb.cell (p := ⟨w.heap.size + 1, 2, none⟩) hlt).trans h.m2, Nat.lt_of_lt_of_le hlt hb.size, h.below.trans (hb.mono h.below.size)⟩
theorem MB.drew {f r a b p : Int} {w W : World} (h : MB f r a b p w W) : MB f r a b p w W.drew := ⟨h.c0, h.c1, h.m0, h.m1, h.m2, h.lt, h.below.drew⟩
theorem MB.drewN {f r a b p : Int} {w W : World} (h : MB f r a b p w W) (n : Nat) : MB f r a b p w (W.drewN n) := ⟨h.c0, h.c1, h.m0, h.m1, h.m2, h.lt, below_drewN h.below n⟩
theorem MB.first (f r a b p : Int) (w : World) (t t2 : TypeId) : MB f r a b p w ((w.alloc (.cells #[.int .i64 f, .int .i64 r] t)).alloc (.cells #[.int .i64 a, .int .i64 b, .int .i8 p] t2)) := by
  have z1 : (w.alloc (.cells #[.int .i64 f, .int .i64 r] t)).heap.size = w.heap.size + 1 := World.size_alloc _ _
  have h1 := heap_alloc_new w (.cells #[.int .i64 f, .int .i64 r] t)
  have h2 := heap_alloc_new (w.alloc (.cells #[.int .i64 f, .int .i64 r] t)) (.cells #[.int .i64 a, .int .i64 b, .int .i8 p] t2)
  rw [z1] at h2
  refine ⟨?_, ?_, ?_, ?_, ?_, by rw [World.size_alloc, z1]; omega, ((Below.refl _ _).alloc (Nat.le_refl _) _).alloc (by omega) _⟩
  · rw [World.cell?_alloc_lt _ _ ⟨w.heap.size, 0, none⟩ (by show w.heap.size < _; omega), cell_of_row _ _ _ _ _ _ h1]; rfl
  · rw [World.cell?_alloc_lt _ _ ⟨w.heap.size, 1, none⟩ (by show w.heap.size < _; omega), cell_of_row _ _ _ _ _ _ h1]; rfl
  · rw [cell_of_row _ _ _ _ _ _ h2]; rfl
  · rw [cell_of_row _ _ _ _ _ _ h2]; rfl
  · rw [cell_of_row _ _ _ _ _ _ h2]; rfl

theorem cmp8 (x y : Int) (w : World) : Calls Tryd.prog 37 #[.int .i8 x, .int .i8 y] w fun e w' => e = .returned (.int .i64 (if x < y then -1 else if y < x then 1 else 0)) ∧ w = w' := by
  by_cases h : x < y
  · rw [if_pos h]
    go_enter Tryd.func37, Tryd.ntmps37
    go_wp2
    go_ret
    exact ⟨rfl, rfl⟩
  · rw [if_neg h]
    by_cases h2 : y < x
    · rw [if_pos h2]
      go_enter Tryd.func37, Tryd.ntmps37
      go_wp2
      go_ret
      exact ⟨rfl, rfl⟩
    · rw [if_neg h2]
      go_enter Tryd.func37, Tryd.ntmps37
      go_wp2
      go_ret
      exact ⟨rfl, rfl⟩
def ordV (x y : Int) : Int := if x < y then -1 else if y < x then 1 else 0
theorem cmp8' (x y : Int) (w : World) : Calls Tryd.prog 37 #[.int .i8 x, .int .i8 y] w fun e w' => e = .returned (.int .i64 (ordV x y)) ∧ w = w' := cmp8 x y w
theorem cmp64 (x y : Int) (w : World) : Calls Tryd.prog 36 #[.int .i64 x, .int .i64 y] w fun e w' => e = .returned (.int .i64 (ordV x y)) ∧ w = w' := by
  unfold ordV
  by_cases h : x < y
  · rw [if_pos h]
    go_enter Tryd.func36, Tryd.ntmps36
    go_wp2
    go_ret
    exact ⟨rfl, rfl⟩
  · rw [if_neg h]
    by_cases h2 : y < x
    · rw [if_pos h2]
      go_enter Tryd.func36, Tryd.ntmps36
      go_wp2
      go_ret
      exact ⟨rfl, rfl⟩
    · rw [if_neg h2]
      go_enter Tryd.func36, Tryd.ntmps36
      go_wp2
      go_ret
      exact ⟨rfl, rfl⟩
theorem rorder (x y : Int) (w : World) : Calls Tryd.prog 38 #[.int .i64 x, .int .i64 y] w fun e w' => e = .returned (.int .i64 (ordV x y)) ∧ w = w' := by
  unfold ordV
  by_cases h : x < y
  · rw [if_pos h]
    go_enter Tryd.func38, Tryd.ntmps38
    go_wp2
    go_ret
    exact ⟨rfl, rfl⟩
  · rw [if_neg h]
    by_cases h2 : y < x
    · rw [if_pos h2]
      go_enter Tryd.func38, Tryd.ntmps38
      go_wp2
      go_ret
      exact ⟨rfl, rfl⟩
    · rw [if_neg h2]
      go_enter Tryd.func38, Tryd.ntmps38
      go_wp2
      go_ret
      exact ⟨rfl, rfl⟩
/-- the order of two moves -/
def cmpV (a b p a' b' p' : Int) : Int := if a ≠ a' then ordV a a' else if b ≠ b' then ordV b b' else ordV p p'
theorem ordV_zero {x y : Int} : ordV x y = 0 ↔ x = y := by unfold ordV; split <;> (try split) <;> omega
theorem ordV_self (x : Int) : ordV x x = 0 := ordV_zero.2 rfl

set_option maxRecDepth 100000 in
theorem pmvalid (f r a b p : Int) (w : World) : Calls Tryd.prog 21 #[.agg #[.int .i64 f, .int .i64 r], .agg #[.int .i64 a, .int .i64 b, .int .i8 p]] w fun e w' => e = .returned (.bool (mvB f r a b p)) ∧ Below w.heap.size w w' := by
  have hK := Lib.hid (MB.first f r a b p w 23 27)
  have c0 := hK.out.c0
  have c1 := hK.out.c1
  have m0 := hK.out.m0
  have m1 := hK.out.m1
  have m2 := hK.out.m2
  rcases ha : sqB f r a with _ | _
  · have hv := Lib.hid (mvB_a (b := b) (p := p) ha)
    go_enter Tryd.func21, Tryd.ntmps21
    go_wp2_with (go_at_call 34; refine (pvalidsq _ _ _ _).mono ?_; rintro e w' ⟨rfl, hbw⟩; (first | rw [ha] | rw [hb]); replace hK := Lib.hid (hK.out.next hbw); replace c0 := hK.out.c0; replace c1 := hK.out.c1; replace m0 := hK.out.m0; replace m1 := hK.out.m1; replace m2 := hK.out.m2; clear hbw)
    go_ret
    exact ⟨by rw [hv.out]; rfl, hK.out.below⟩
  rcases hb : sqB f r b with _ | _
  · have hv := Lib.hid (mvB_b (a := a) (p := p) hb)
    go_enter Tryd.func21, Tryd.ntmps21
    go_wp2_with (go_at_call 34; refine (pvalidsq _ _ _ _).mono ?_; rintro e w' ⟨rfl, hbw⟩; (first | rw [ha] | rw [hb]); replace hK := Lib.hid (hK.out.next hbw); replace c0 := hK.out.c0; replace c1 := hK.out.c1; replace m0 := hK.out.m0; replace m1 := hK.out.m1; replace m2 := hK.out.m2; clear hbw)
    go_ret
    exact ⟨by rw [hv.out]; rfl, hK.out.below⟩
  by_cases h : a = b
  · have hv := Lib.hid (mvB_no (f := f) (r := r) (a := a) (b := b) (p := p) (by omega))
    have hn : (a != b) = false := by rw [bne_eq_false_iff_eq]; exact h
    clear h
    go_enter Tryd.func21, Tryd.ntmps21
    go_wp2_with (go_at_call 34; refine (pvalidsq _ _ _ _).mono ?_; rintro e w' ⟨rfl, hbw⟩; (first | rw [ha] | rw [hb]); replace hK := Lib.hid (hK.out.next hbw); replace c0 := hK.out.c0; replace c1 := hK.out.c1; replace m0 := hK.out.m0; replace m1 := hK.out.m1; replace m2 := hK.out.m2; clear hbw)
    go_ret
    exact ⟨by rw [hv.out]; rfl, hK.out.below⟩
  have hab : a ≠ b := h
  clear h
  by_cases h : p = 0
  · have hv := Lib.hid (mvB_yes (p := p) ha hb (by omega))
    have hn : (a != b) = true := by rw [bne_iff_ne]; exact hab
    have hp : (p == 0) = true := by rw [beq_iff_eq]; exact h
    clear h
    go_enter Tryd.func21, Tryd.ntmps21
    go_wp2_with (go_at_call 34; refine (pvalidsq _ _ _ _).mono ?_; rintro e w' ⟨rfl, hbw⟩; (first | rw [ha] | rw [hb]); replace hK := Lib.hid (hK.out.next hbw); replace c0 := hK.out.c0; replace c1 := hK.out.c1; replace m0 := hK.out.m0; replace m1 := hK.out.m1; replace m2 := hK.out.m2; clear hbw)
    go_ret
    exact ⟨by rw [hv.out]; rfl, hK.out.below⟩
  have hp0 : p ≠ 0 := h
  clear h
  by_cases h : p < 2
  · have hv := Lib.hid (mvB_no (f := f) (r := r) (a := a) (b := b) (p := p) (by omega))
    have hn : (a != b) = true := by rw [bne_iff_ne]; exact hab
    have hp : (p == 0) = false := by rw [beq_eq_false_iff_ne]; exact hp0
    clear hp0
    go_enter Tryd.func21, Tryd.ntmps21
    go_wp2_with (go_at_call 34; refine (pvalidsq _ _ _ _).mono ?_; rintro e w' ⟨rfl, hbw⟩; (first | rw [ha] | rw [hb]); replace hK := Lib.hid (hK.out.next hbw); replace c0 := hK.out.c0; replace c1 := hK.out.c1; replace m0 := hK.out.m0; replace m1 := hK.out.m1; replace m2 := hK.out.m2; clear hbw)
    go_ret
    exact ⟨by rw [hv.out]; rfl, hK.out.below⟩
  have hp2 : 2 ≤ p := by omega
  clear h
  by_cases h : 5 < p
  · have hq : decide (p ≤ 5) = false := decide_eq_false (by omega)
    have hv := Lib.hid (mvB_no (f := f) (r := r) (a := a) (b := b) (p := p) (by omega))
    have hn : (a != b) = true := by rw [bne_iff_ne]; exact hab
    have hp : (p == 0) = false := by rw [beq_eq_false_iff_ne]; exact hp0
    clear hp0
    go_enter Tryd.func21, Tryd.ntmps21
    go_wp2_with (go_at_call 34; refine (pvalidsq _ _ _ _).mono ?_; rintro e w' ⟨rfl, hbw⟩; (first | rw [ha] | rw [hb]); replace hK := Lib.hid (hK.out.next hbw); replace c0 := hK.out.c0; replace c1 := hK.out.c1; replace m0 := hK.out.m0; replace m1 := hK.out.m1; replace m2 := hK.out.m2; clear hbw)
    go_ret
    exact ⟨by rw [hv.out]; rfl, hK.out.below⟩
  have hp5 : p ≤ 5 := by omega
  clear h
  have hv := Lib.hid (mvB_yes (p := p) ha hb (by omega))
  have hn : (a != b) = true := by rw [bne_iff_ne]; exact hab
  have hp : (p == 0) = false := by rw [beq_eq_false_iff_ne]; exact hp0
  clear hp0
  go_enter Tryd.func21, Tryd.ntmps21
  go_wp2_with (go_at_call 34; refine (pvalidsq _ _ _ _).mono ?_; rintro e w' ⟨rfl, hbw⟩; (first | rw [ha] | rw [hb]); replace hK := Lib.hid (hK.out.next hbw); replace c0 := hK.out.c0; replace c1 := hK.out.c1; replace m0 := hK.out.m0; replace m1 := hK.out.m1; replace m2 := hK.out.m2; clear hbw)
  go_ret
  exact ⟨by rw [hv.out]; rfl, hK.out.below⟩
set_option maxRecDepth 100000 in
theorem rmvalid (f r a b p : Int) (w : World) : Calls Tryd.prog 10 #[.agg #[.int .i64 f, .int .i64 r], .agg #[.int .i64 a, .int .i64 b, .int .i8 p]] w fun e w' => e = .returned (.bool (mvB f r a b p)) ∧ Below w.heap.size w w' := by
  have hK := Lib.hid (MB.first f r a b p w 23 27)
  have c0 := hK.out.c0
  have c1 := hK.out.c1
  have m0 := hK.out.m0
  have m1 := hK.out.m1
  have m2 := hK.out.m2
  rcases ha : sqB f r a with _ | _
  · have hv := Lib.hid (mvB_a (b := b) (p := p) ha)
    go_enter Tryd.func10, Tryd.ntmps10
    go_wp2_with (go_at_call 26; refine (rvalidsq _ _ _ _).mono ?_; rintro e w' ⟨rfl, hbw⟩; (first | rw [ha] | rw [hb]); replace hK := Lib.hid (hK.out.next hbw); replace c0 := hK.out.c0; replace c1 := hK.out.c1; replace m0 := hK.out.m0; replace m1 := hK.out.m1; replace m2 := hK.out.m2; clear hbw)
    go_ret
    exact ⟨by rw [hv.out]; rfl, hK.out.below⟩
  rcases hb : sqB f r b with _ | _
  · have hv := Lib.hid (mvB_b (a := a) (p := p) hb)
    go_enter Tryd.func10, Tryd.ntmps10
    go_wp2_with (go_at_call 26; refine (rvalidsq _ _ _ _).mono ?_; rintro e w' ⟨rfl, hbw⟩; (first | rw [ha] | rw [hb]); replace hK := Lib.hid (hK.out.next hbw); replace c0 := hK.out.c0; replace c1 := hK.out.c1; replace m0 := hK.out.m0; replace m1 := hK.out.m1; replace m2 := hK.out.m2; clear hbw)
    go_ret
    exact ⟨by rw [hv.out]; rfl, hK.out.below⟩
  by_cases h : a = b
  · have hv := Lib.hid (mvB_no (f := f) (r := r) (a := a) (b := b) (p := p) (by omega))
    have hn : (a != b) = false := by rw [bne_eq_false_iff_eq]; exact h
    clear h
    go_enter Tryd.func10, Tryd.ntmps10
    go_wp2_with (go_at_call 26; refine (rvalidsq _ _ _ _).mono ?_; rintro e w' ⟨rfl, hbw⟩; (first | rw [ha] | rw [hb]); replace hK := Lib.hid (hK.out.next hbw); replace c0 := hK.out.c0; replace c1 := hK.out.c1; replace m0 := hK.out.m0; replace m1 := hK.out.m1; replace m2 := hK.out.m2; clear hbw)
    go_ret
    exact ⟨by rw [hv.out]; rfl, hK.out.below⟩
  have hab : a ≠ b := h
  clear h
  by_cases h : p = 0
  · have hv := Lib.hid (mvB_yes (p := p) ha hb (by omega))
    have hn : (a != b) = true := by rw [bne_iff_ne]; exact hab
    have hp : (p == 0) = true := by rw [beq_iff_eq]; exact h
    clear h
    go_enter Tryd.func10, Tryd.ntmps10
    go_wp2_with (go_at_call 26; refine (rvalidsq _ _ _ _).mono ?_; rintro e w' ⟨rfl, hbw⟩; (first | rw [ha] | rw [hb]); replace hK := Lib.hid (hK.out.next hbw); replace c0 := hK.out.c0; replace c1 := hK.out.c1; replace m0 := hK.out.m0; replace m1 := hK.out.m1; replace m2 := hK.out.m2; clear hbw)
    go_ret
    exact ⟨by rw [hv.out]; rfl, hK.out.below⟩
  have hp0 : p ≠ 0 := h
  clear h
  by_cases h : p < 2
  · have hv := Lib.hid (mvB_no (f := f) (r := r) (a := a) (b := b) (p := p) (by omega))
    have hn : (a != b) = true := by rw [bne_iff_ne]; exact hab
    have hp : (p == 0) = false := by rw [beq_eq_false_iff_ne]; exact hp0
    clear hp0
    go_enter Tryd.func10, Tryd.ntmps10
    go_wp2_with (go_at_call 26; refine (rvalidsq _ _ _ _).mono ?_; rintro e w' ⟨rfl, hbw⟩; (first | rw [ha] | rw [hb]); replace hK := Lib.hid (hK.out.next hbw); replace c0 := hK.out.c0; replace c1 := hK.out.c1; replace m0 := hK.out.m0; replace m1 := hK.out.m1; replace m2 := hK.out.m2; clear hbw)
    go_ret
    exact ⟨by rw [hv.out]; rfl, hK.out.below⟩
  have hp2 : 2 ≤ p := by omega
  clear h
  by_cases h : 5 < p
  · have hq : decide (p ≤ 5) = false := decide_eq_false (by omega)
    have hv := Lib.hid (mvB_no (f := f) (r := r) (a := a) (b := b) (p := p) (by omega))
    have hn : (a != b) = true := by rw [bne_iff_ne]; exact hab
    have hp : (p == 0) = false := by rw [beq_eq_false_iff_ne]; exact hp0
    clear hp0
    go_enter Tryd.func10, Tryd.ntmps10
    go_wp2_with (go_at_call 26; refine (rvalidsq _ _ _ _).mono ?_; rintro e w' ⟨rfl, hbw⟩; (first | rw [ha] | rw [hb]); replace hK := Lib.hid (hK.out.next hbw); replace c0 := hK.out.c0; replace c1 := hK.out.c1; replace m0 := hK.out.m0; replace m1 := hK.out.m1; replace m2 := hK.out.m2; clear hbw)
    go_ret
    exact ⟨by rw [hv.out]; rfl, hK.out.below⟩
  have hp5 : p ≤ 5 := by omega
  clear h
  have hv := Lib.hid (mvB_yes (p := p) ha hb (by omega))
  have hn : (a != b) = true := by rw [bne_iff_ne]; exact hab
  have hp : (p == 0) = false := by rw [beq_eq_false_iff_ne]; exact hp0
  clear hp0
  go_enter Tryd.func10, Tryd.ntmps10
  go_wp2_with (go_at_call 26; refine (rvalidsq _ _ _ _).mono ?_; rintro e w' ⟨rfl, hbw⟩; (first | rw [ha] | rw [hb]); replace hK := Lib.hid (hK.out.next hbw); replace c0 := hK.out.c0; replace c1 := hK.out.c1; replace m0 := hK.out.m0; replace m1 := hK.out.m1; replace m2 := hK.out.m2; clear hbw)
  go_ret
  exact ⟨by rw [hv.out]; rfl, hK.out.below⟩

/-- the boxes of two moves lie in W as they lay -/
structure MM (a b p a' b' p' : Int) (w W : World) : Prop where
  m0 : W.cell? ⟨w.heap.size, 0, none⟩ = some (.int .i64 a)
  m1 : W.cell? ⟨w.heap.size, 1, none⟩ = some (.int .i64 b)
  m2 : W.cell? ⟨w.heap.size, 2, none⟩ = some (.int .i8 p)
  n0 : W.cell? ⟨w.heap.size + 1, 0, none⟩ = some (.int .i64 a')
  n1 : W.cell? ⟨w.heap.size + 1, 1, none⟩ = some (.int .i64 b')
  n2 : W.cell? ⟨w.heap.size + 1, 2, none⟩ = some (.int .i8 p')
theorem MM.first (a b p a' b' p' : Int) (w : World) (t t2 : TypeId) : MM a b p a' b' p' w ((w.alloc (.cells #[.int .i64 a, .int .i64 b, .int .i8 p] t)).alloc (.cells #[.int .i64 a', .int .i64 b', .int .i8 p'] t2)) := by
  have z1 : (w.alloc (.cells #[.int .i64 a, .int .i64 b, .int .i8 p] t)).heap.size = w.heap.size + 1 := World.size_alloc _ _
  have h1 := heap_alloc_new w (.cells #[.int .i64 a, .int .i64 b, .int .i8 p] t)
  have h2 := heap_alloc_new (w.alloc (.cells #[.int .i64 a, .int .i64 b, .int .i8 p] t)) (.cells #[.int .i64 a', .int .i64 b', .int .i8 p'] t2)
  rw [z1] at h2
  refine ⟨?_, ?_, ?_, ?_, ?_, ?_⟩
  · rw [World.cell?_alloc_lt _ _ ⟨w.heap.size, 0, none⟩ (by show w.heap.size < _; omega), cell_of_row _ _ _ _ _ _ h1]; rfl
  · rw [World.cell?_alloc_lt _ _ ⟨w.heap.size, 1, none⟩ (by show w.heap.size < _; omega), cell_of_row _ _ _ _ _ _ h1]; rfl
  · rw [World.cell?_alloc_lt _ _ ⟨w.heap.size, 2, none⟩ (by show w.heap.size < _; omega), cell_of_row _ _ _ _ _ _ h1]; rfl
  · rw [cell_of_row _ _ _ _ _ _ h2]; rfl
  · rw [cell_of_row _ _ _ _ _ _ h2]; rfl
  · rw [cell_of_row _ _ _ _ _ _ h2]; rfl
theorem below_two (w : World) (o o' : Obj) : Below w.heap.size w ((w.alloc o).alloc o') := ((Below.refl _ _).alloc (Nat.le_refl _) o).alloc (by simp) o'

set_option maxRecDepth 100000 in
theorem rcmp (a b p a' b' p' : Int) (w : World) (hp : -128 ≤ p) (hp1 : p ≤ 127) (hq : -128 ≤ p') (hq1 : p' ≤ 127) : Calls Tryd.prog 23 #[.agg #[.int .i64 a, .int .i64 b, .int .i8 p], .agg #[.int .i64 a', .int .i64 b', .int .i8 p']] w fun e w' => e = .returned (.int .i64 (cmpV a b p a' b' p')) ∧ Below w.heap.size w w' := by
  have hM := MM.first a b p a' b' p' w 27 27
  have m0 := hM.m0
  have m1 := hM.m1
  have m2 := hM.m2
  have n0 := hM.n0
  have n1 := hM.n1
  have n2 := hM.n2
  clear hM
  unfold cmpV
  by_cases h : a = a'
  · rw [if_neg (by simpa using h)]
    have hn : (a != a') = false := by rw [bne_eq_false_iff_eq]; exact h
    clear h
    by_cases h : b = b'
    · rw [if_neg (by simpa using h)]
      have hn2 : (b != b') = false := by rw [bne_eq_false_iff_eq]; exact h
      clear h
      go_enter Tryd.func23, Tryd.ntmps23
      go_wp2_with (go_at_call 38; refine (rorder _ _ _).mono ?_; rintro e w' ⟨rfl, rfl⟩)
      go_ret
      exact ⟨rfl, below_two _ _ _⟩
    · rw [if_pos h]
      have hn2 : (b != b') = true := by rw [bne_iff_ne]; exact h
      clear h
      go_enter Tryd.func23, Tryd.ntmps23
      go_wp2_with (go_at_call 38; refine (rorder _ _ _).mono ?_; rintro e w' ⟨rfl, rfl⟩)
      go_ret
      exact ⟨rfl, below_two _ _ _⟩
  · rw [if_pos h]
    have hn : (a != a') = true := by rw [bne_iff_ne]; exact h
    clear h
    go_enter Tryd.func23, Tryd.ntmps23
    go_wp2_with (go_at_call 38; refine (rorder _ _ _).mono ?_; rintro e w' ⟨rfl, rfl⟩)
    go_ret
    exact ⟨rfl, below_two _ _ _⟩

/-- the first number that is not zero -/
def orV (x y z : Int) : Int := if x ≠ 0 then x else if y ≠ 0 then y else z
theorem orV_x {x y z : Int} (h : x ≠ 0) : orV x y z = x := if_pos h
theorem orV_y {x y z : Int} (h : x = 0) (h2 : y ≠ 0) : orV x y z = y := by unfold orV; rw [if_neg (by simpa using h), if_pos h2]
theorem orV_z {x y z : Int} (h : x = 0) (h2 : y = 0) : orV x y z = z := by unfold orV; rw [if_neg (by simpa using h), if_neg (by simpa using h2)]
theorem por (b : Nat) (x y z : Int) (w : World) (h0 : w.cell? ⟨b, 0, none⟩ = some (.int .i64 x)) (h1 : w.cell? ⟨b, 1, none⟩ = some (.int .i64 y)) (h2 : w.cell? ⟨b, 2, none⟩ = some (.int .i64 z)) :
    Calls Tryd.prog 35 #[.slice (some ⟨b, 0, none⟩) 3 3] w fun e w' => e = .returned (.int .i64 (orV x y z)) ∧ w = w' := by
  by_cases hx : x = 0
  · have hx1 : (x != 0) = false := by rw [bne_eq_false_iff_eq]; exact hx
    by_cases hy : y = 0
    · have hy1 : (y != 0) = false := by rw [bne_eq_false_iff_eq]; exact hy
      have hv := Lib.hid (orV_z (z := z) hx hy)
      by_cases hz : z = 0
      · have hz1 : (z != 0) = false := by rw [bne_eq_false_iff_eq]; exact hz
        have hv2 := Lib.hid hz
        clear hx hy hz
        go_enter Tryd.func35, Tryd.ntmps35
        go_wp2
        refine wp_loop_rounds 4 ?_
        rw [rounds_succ]
        go_wp2
        rw [rounds_succ]
        go_wp2
        rw [rounds_succ]
        go_wp2
        rw [rounds_succ]
        go_wp2
        go_ret
        exact ⟨ri (by rw [hv.out, hv2.out]), rfl⟩
      · have hz1 : (z != 0) = true := by rw [bne_iff_ne]; exact hz
        clear hx hy hz
        go_enter Tryd.func35, Tryd.ntmps35
        go_wp2
        refine wp_loop_rounds 4 ?_
        rw [rounds_succ]
        go_wp2
        rw [rounds_succ]
        go_wp2
        rw [rounds_succ]
        go_wp2
        go_ret
        exact ⟨ri (by rw [hv.out]), rfl⟩
    · have hy1 : (y != 0) = true := by rw [bne_iff_ne]; exact hy
      have hv := Lib.hid (orV_y (z := z) hx hy)
      clear hx hy
      go_enter Tryd.func35, Tryd.ntmps35
      go_wp2
      refine wp_loop_rounds 4 ?_
      rw [rounds_succ]
      go_wp2
      rw [rounds_succ]
      go_wp2
      go_ret
      exact ⟨ri (by rw [hv.out]), rfl⟩
  · have hx1 : (x != 0) = true := by rw [bne_iff_ne]; exact hx
    have hv := Lib.hid (orV_x (y := y) (z := z) hx)
    clear hx
    go_enter Tryd.func35, Tryd.ntmps35
    go_wp2
    refine wp_loop_rounds 4 ?_
    rw [rounds_succ]
    go_wp2
    go_ret
    exact ⟨ri (by rw [hv.out]), rfl⟩
theorem orV_cmp (a b p a' b' p' : Int) : orV (ordV a a') (ordV b b') (ordV p p') = cmpV a b p a' b' p' := by
  unfold orV cmpV
  simp only [ne_eq, ordV_zero]
end Go.Proofs.YtlnphcdanadaeaaDoor
