/- Layer 43: what a colour costs an entrant: the program's. -/
import Derived.Test.YtjjjdoealagpcaaDoorGb
import Derived.Deep.Cut
import Derived.BigQuiet
namespace Go.Proofs.YtjjjdoealagpcaaDoor
open Go Go.RowKit
set_option linter.unusedSimpArgs false
set_option linter.unusedVariables false
theorem below_drewN {B : Nat} {a w : World} (h : Below B a w) (n : Nat) : Below B a (w.drewN n) := ⟨h.os, h.tape, h.output, h.size, h.block⟩
theorem pcol_w11 (x : Ent) (w : World) (hw : 0 ≤ x.whites ∧ x.whites ≤ 1000) (hb : 0 ≤ x.blacks ∧ x.blacks ≤ 1000) (h1 : x.blacks < x.whites) (h2 : x.last = 1) : Calls Tryd.prog 45 #[eV x, .int .i64 1] w fun e w' => e = .returned (.int .i64 3) ∧ Below w.heap.size w w' := by
  have hb1 : Hid (Below w.heap.size w (w.alloc (eC x))) := (Below.refl _ _).alloc (Nat.le_refl _) _
  have hE := EB.new w x
  have c3 := hE.c3
  have c4 := hE.c4
  have c5 := hE.c5
  obtain ⟨D, hD⟩ : ∃ D, x.whites - x.blacks = D := ⟨_, rfl⟩
  obtain ⟨E, hE2⟩ : ∃ E, -D = E := ⟨_, rfl⟩
  have g1 : IntKind.i64.wrap (x.whites - x.blacks) = D := by rw [hD]; exact IntWalk.i64_in _ (by omega)
  have g2 : IntKind.i64.wrap (-D) = E := by rw [hE2]; exact IntWalk.i64_in _ (by omega)
  have f1 : ((0 : Int) < D) = True := by rw [eq_iff_iff, iff_true]; omega
  have f2 : (x.last == 1) = true := by rw [beq_iff_eq]; exact h2
  clear hE h1 h2 hw hb hD hE2
  go_enter Tryd.func45, Tryd.ntmps45
  go_upto_region 1 with fail
  generalize w.alloc (eC x) = w1 at *
  go_quiet (fail)
  go_wp2_with fail
  go_ret
  exact ⟨rfl, below_drewN hb1.out _⟩
theorem pcol_w10 (x : Ent) (w : World) (hw : 0 ≤ x.whites ∧ x.whites ≤ 1000) (hb : 0 ≤ x.blacks ∧ x.blacks ≤ 1000) (h1 : x.blacks < x.whites) (h2 : ¬ x.last = 1) : Calls Tryd.prog 45 #[eV x, .int .i64 1] w fun e w' => e = .returned (.int .i64 2) ∧ Below w.heap.size w w' := by
  have hb1 : Hid (Below w.heap.size w (w.alloc (eC x))) := (Below.refl _ _).alloc (Nat.le_refl _) _
  have hE := EB.new w x
  have c3 := hE.c3
  have c4 := hE.c4
  have c5 := hE.c5
  obtain ⟨D, hD⟩ : ∃ D, x.whites - x.blacks = D := ⟨_, rfl⟩
  obtain ⟨E, hE2⟩ : ∃ E, -D = E := ⟨_, rfl⟩
  have g1 : IntKind.i64.wrap (x.whites - x.blacks) = D := by rw [hD]; exact IntWalk.i64_in _ (by omega)
  have g2 : IntKind.i64.wrap (-D) = E := by rw [hE2]; exact IntWalk.i64_in _ (by omega)
  have f1 : ((0 : Int) < D) = True := by rw [eq_iff_iff, iff_true]; omega
  have f2 : (x.last == 1) = false := by rw [beq_eq_false_iff_ne]; exact h2
  clear hE h1 h2 hw hb hD hE2
  go_enter Tryd.func45, Tryd.ntmps45
  go_upto_region 1 with fail
  generalize w.alloc (eC x) = w1 at *
  go_quiet (fail)
  go_wp2_with fail
  go_ret
  exact ⟨rfl, below_drewN hb1.out _⟩
theorem pcol_w01 (x : Ent) (w : World) (hw : 0 ≤ x.whites ∧ x.whites ≤ 1000) (hb : 0 ≤ x.blacks ∧ x.blacks ≤ 1000) (h1 : ¬ x.blacks < x.whites) (h2 : x.last = 1) : Calls Tryd.prog 45 #[eV x, .int .i64 1] w fun e w' => e = .returned (.int .i64 1) ∧ Below w.heap.size w w' := by
  have hb1 : Hid (Below w.heap.size w (w.alloc (eC x))) := (Below.refl _ _).alloc (Nat.le_refl _) _
  have hE := EB.new w x
  have c3 := hE.c3
  have c4 := hE.c4
  have c5 := hE.c5
  obtain ⟨D, hD⟩ : ∃ D, x.whites - x.blacks = D := ⟨_, rfl⟩
  obtain ⟨E, hE2⟩ : ∃ E, -D = E := ⟨_, rfl⟩
  have g1 : IntKind.i64.wrap (x.whites - x.blacks) = D := by rw [hD]; exact IntWalk.i64_in _ (by omega)
  have g2 : IntKind.i64.wrap (-D) = E := by rw [hE2]; exact IntWalk.i64_in _ (by omega)
  have f1 : ((0 : Int) < D) = False := by rw [eq_iff_iff, iff_false]; omega
  have f2 : (x.last == 1) = true := by rw [beq_iff_eq]; exact h2
  clear hE h1 h2 hw hb hD hE2
  go_enter Tryd.func45, Tryd.ntmps45
  go_upto_region 1 with fail
  generalize w.alloc (eC x) = w1 at *
  go_quiet (fail)
  go_wp2_with fail
  go_ret
  exact ⟨rfl, below_drewN hb1.out _⟩
theorem pcol_w00 (x : Ent) (w : World) (hw : 0 ≤ x.whites ∧ x.whites ≤ 1000) (hb : 0 ≤ x.blacks ∧ x.blacks ≤ 1000) (h1 : ¬ x.blacks < x.whites) (h2 : ¬ x.last = 1) : Calls Tryd.prog 45 #[eV x, .int .i64 1] w fun e w' => e = .returned (.int .i64 0) ∧ Below w.heap.size w w' := by
  have hb1 : Hid (Below w.heap.size w (w.alloc (eC x))) := (Below.refl _ _).alloc (Nat.le_refl _) _
  have hE := EB.new w x
  have c3 := hE.c3
  have c4 := hE.c4
  have c5 := hE.c5
  obtain ⟨D, hD⟩ : ∃ D, x.whites - x.blacks = D := ⟨_, rfl⟩
  obtain ⟨E, hE2⟩ : ∃ E, -D = E := ⟨_, rfl⟩
  have g1 : IntKind.i64.wrap (x.whites - x.blacks) = D := by rw [hD]; exact IntWalk.i64_in _ (by omega)
  have g2 : IntKind.i64.wrap (-D) = E := by rw [hE2]; exact IntWalk.i64_in _ (by omega)
  have f1 : ((0 : Int) < D) = False := by rw [eq_iff_iff, iff_false]; omega
  have f2 : (x.last == 1) = false := by rw [beq_eq_false_iff_ne]; exact h2
  clear hE h1 h2 hw hb hD hE2
  go_enter Tryd.func45, Tryd.ntmps45
  go_upto_region 1 with fail
  generalize w.alloc (eC x) = w1 at *
  go_quiet (fail)
  go_wp2_with fail
  go_ret
  exact ⟨rfl, below_drewN hb1.out _⟩
theorem pcol_b11 (x : Ent) (w : World) (hw : 0 ≤ x.whites ∧ x.whites ≤ 1000) (hb : 0 ≤ x.blacks ∧ x.blacks ≤ 1000) (h1 : x.whites < x.blacks) (h2 : x.last = 2) : Calls Tryd.prog 45 #[eV x, .int .i64 2] w fun e w' => e = .returned (.int .i64 3) ∧ Below w.heap.size w w' := by
  have hb1 : Hid (Below w.heap.size w (w.alloc (eC x))) := (Below.refl _ _).alloc (Nat.le_refl _) _
  have hE := EB.new w x
  have c3 := hE.c3
  have c4 := hE.c4
  have c5 := hE.c5
  obtain ⟨D, hD⟩ : ∃ D, x.whites - x.blacks = D := ⟨_, rfl⟩
  obtain ⟨E, hE2⟩ : ∃ E, -D = E := ⟨_, rfl⟩
  have g1 : IntKind.i64.wrap (x.whites - x.blacks) = D := by rw [hD]; exact IntWalk.i64_in _ (by omega)
  have g2 : IntKind.i64.wrap (-D) = E := by rw [hE2]; exact IntWalk.i64_in _ (by omega)
  have f1 : ((0 : Int) < E) = True := by rw [eq_iff_iff, iff_true]; omega
  have f2 : (x.last == 2) = true := by rw [beq_iff_eq]; exact h2
  clear hE h1 h2 hw hb hD hE2
  go_enter Tryd.func45, Tryd.ntmps45
  go_upto_region 1 with fail
  generalize w.alloc (eC x) = w1 at *
  go_quiet (fail)
  go_wp2_with fail
  go_ret
  exact ⟨rfl, below_drewN hb1.out _⟩
theorem pcol_b10 (x : Ent) (w : World) (hw : 0 ≤ x.whites ∧ x.whites ≤ 1000) (hb : 0 ≤ x.blacks ∧ x.blacks ≤ 1000) (h1 : x.whites < x.blacks) (h2 : ¬ x.last = 2) : Calls Tryd.prog 45 #[eV x, .int .i64 2] w fun e w' => e = .returned (.int .i64 2) ∧ Below w.heap.size w w' := by
  have hb1 : Hid (Below w.heap.size w (w.alloc (eC x))) := (Below.refl _ _).alloc (Nat.le_refl _) _
  have hE := EB.new w x
  have c3 := hE.c3
  have c4 := hE.c4
  have c5 := hE.c5
  obtain ⟨D, hD⟩ : ∃ D, x.whites - x.blacks = D := ⟨_, rfl⟩
  obtain ⟨E, hE2⟩ : ∃ E, -D = E := ⟨_, rfl⟩
  have g1 : IntKind.i64.wrap (x.whites - x.blacks) = D := by rw [hD]; exact IntWalk.i64_in _ (by omega)
  have g2 : IntKind.i64.wrap (-D) = E := by rw [hE2]; exact IntWalk.i64_in _ (by omega)
  have f1 : ((0 : Int) < E) = True := by rw [eq_iff_iff, iff_true]; omega
  have f2 : (x.last == 2) = false := by rw [beq_eq_false_iff_ne]; exact h2
  clear hE h1 h2 hw hb hD hE2
  go_enter Tryd.func45, Tryd.ntmps45
  go_upto_region 1 with fail
  generalize w.alloc (eC x) = w1 at *
  go_quiet (fail)
  go_wp2_with fail
  go_ret
  exact ⟨rfl, below_drewN hb1.out _⟩
theorem pcol_b01 (x : Ent) (w : World) (hw : 0 ≤ x.whites ∧ x.whites ≤ 1000) (hb : 0 ≤ x.blacks ∧ x.blacks ≤ 1000) (h1 : ¬ x.whites < x.blacks) (h2 : x.last = 2) : Calls Tryd.prog 45 #[eV x, .int .i64 2] w fun e w' => e = .returned (.int .i64 1) ∧ Below w.heap.size w w' := by
  have hb1 : Hid (Below w.heap.size w (w.alloc (eC x))) := (Below.refl _ _).alloc (Nat.le_refl _) _
  have hE := EB.new w x
  have c3 := hE.c3
  have c4 := hE.c4
  have c5 := hE.c5
  obtain ⟨D, hD⟩ : ∃ D, x.whites - x.blacks = D := ⟨_, rfl⟩
  obtain ⟨E, hE2⟩ : ∃ E, -D = E := ⟨_, rfl⟩
  have g1 : IntKind.i64.wrap (x.whites - x.blacks) = D := by rw [hD]; exact IntWalk.i64_in _ (by omega)
  have g2 : IntKind.i64.wrap (-D) = E := by rw [hE2]; exact IntWalk.i64_in _ (by omega)
  have f1 : ((0 : Int) < E) = False := by rw [eq_iff_iff, iff_false]; omega
  have f2 : (x.last == 2) = true := by rw [beq_iff_eq]; exact h2
  clear hE h1 h2 hw hb hD hE2
  go_enter Tryd.func45, Tryd.ntmps45
  go_upto_region 1 with fail
  generalize w.alloc (eC x) = w1 at *
  go_quiet (fail)
  go_wp2_with fail
  go_ret
  exact ⟨rfl, below_drewN hb1.out _⟩
theorem pcol_b00 (x : Ent) (w : World) (hw : 0 ≤ x.whites ∧ x.whites ≤ 1000) (hb : 0 ≤ x.blacks ∧ x.blacks ≤ 1000) (h1 : ¬ x.whites < x.blacks) (h2 : ¬ x.last = 2) : Calls Tryd.prog 45 #[eV x, .int .i64 2] w fun e w' => e = .returned (.int .i64 0) ∧ Below w.heap.size w w' := by
  have hb1 : Hid (Below w.heap.size w (w.alloc (eC x))) := (Below.refl _ _).alloc (Nat.le_refl _) _
  have hE := EB.new w x
  have c3 := hE.c3
  have c4 := hE.c4
  have c5 := hE.c5
  obtain ⟨D, hD⟩ : ∃ D, x.whites - x.blacks = D := ⟨_, rfl⟩
  obtain ⟨E, hE2⟩ : ∃ E, -D = E := ⟨_, rfl⟩
  have g1 : IntKind.i64.wrap (x.whites - x.blacks) = D := by rw [hD]; exact IntWalk.i64_in _ (by omega)
  have g2 : IntKind.i64.wrap (-D) = E := by rw [hE2]; exact IntWalk.i64_in _ (by omega)
  have f1 : ((0 : Int) < E) = False := by rw [eq_iff_iff, iff_false]; omega
  have f2 : (x.last == 2) = false := by rw [beq_eq_false_iff_ne]; exact h2
  clear hE h1 h2 hw hb hD hE2
  go_enter Tryd.func45, Tryd.ntmps45
  go_upto_region 1 with fail
  generalize w.alloc (eC x) = w1 at *
  go_quiet (fail)
  go_wp2_with fail
  go_ret
  exact ⟨rfl, below_drewN hb1.out _⟩
theorem pcolor (x : Ent) (white : Bool) (w : World) (hw : 0 ≤ x.whites ∧ x.whites ≤ 1000) (hb : 0 ≤ x.blacks ∧ x.blacks ≤ 1000) : Calls Tryd.prog 45 #[eV x, .int .i64 (if white then 1 else 2)] w fun e w' => e = .returned (.int .i64 (colV x white)) ∧ Below w.heap.size w w' := by
  cases white with
  | true =>
    by_cases h1 : x.blacks < x.whites <;> by_cases h2 : x.last = 1
    · exact (pcol_w11 x w hw hb h1 h2).mono fun e w' ⟨a, b⟩ => ⟨by rw [a]; simp [colV, h1, h2], b⟩
    · exact (pcol_w10 x w hw hb h1 h2).mono fun e w' ⟨a, b⟩ => ⟨by rw [a]; simp [colV, h1, h2], b⟩
    · exact (pcol_w01 x w hw hb h1 h2).mono fun e w' ⟨a, b⟩ => ⟨by rw [a]; simp [colV, h1, h2], b⟩
    · exact (pcol_w00 x w hw hb h1 h2).mono fun e w' ⟨a, b⟩ => ⟨by rw [a]; simp [colV, h1, h2], b⟩
  | false =>
    by_cases h1 : x.whites < x.blacks <;> by_cases h2 : x.last = 2
    · exact (pcol_b11 x w hw hb h1 h2).mono fun e w' ⟨a, b⟩ => ⟨by rw [a]; simp [colV, h1, h2], b⟩
    · exact (pcol_b10 x w hw hb h1 h2).mono fun e w' ⟨a, b⟩ => ⟨by rw [a]; simp [colV, h1, h2], b⟩
    · exact (pcol_b01 x w hw hb h1 h2).mono fun e w' ⟨a, b⟩ => ⟨by rw [a]; simp [colV, h1, h2], b⟩
    · exact (pcol_b00 x w hw hb h1 h2).mono fun e w' ⟨a, b⟩ => ⟨by rw [a]; simp [colV, h1, h2], b⟩
end Go.Proofs.YtjjjdoealagpcaaDoor
