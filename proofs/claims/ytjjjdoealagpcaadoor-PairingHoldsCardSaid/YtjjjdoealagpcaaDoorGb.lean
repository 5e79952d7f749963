/- Layer 43: what a colour costs an entrant: the statements' and the program's. -/
import Derived.Test.YtjjjdoealagpcaaDoorGa
import Derived.Deep.Cut
namespace Go.Proofs.YtjjjdoealagpcaaDoor
open Go Go.RowKit
set_option linter.unusedSimpArgs false
set_option linter.unusedVariables false
abbrev eV (x : Ent) : Value := .agg #[.string x.name, .int .i64 x.rating, .int .i64 x.score, .int .i64 x.whites, .int .i64 x.blacks, .int .i64 x.last, .bool x.bye, .slice x.mA x.met.length x.mc]
abbrev eC (x : Ent) : Obj := .cells #[.string x.name, .int .i64 x.rating, .int .i64 x.score, .int .i64 x.whites, .int .i64 x.blacks, .int .i64 x.last, .bool x.bye, .slice x.mA x.met.length x.mc] 25
structure EB (w : World) (B : Nat) (x : Ent) : Prop where
  c3 : w.cell? ⟨B, 3, none⟩ = some (.int .i64 x.whites)
  c4 : w.cell? ⟨B, 4, none⟩ = some (.int .i64 x.blacks)
  c5 : w.cell? ⟨B, 5, none⟩ = some (.int .i64 x.last)
theorem EB.new (w : World) (x : Ent) : EB (w.alloc (eC x)) w.heap.size x := by
  have h2 := heap_alloc_new w (eC x)
  refine ⟨?_, ?_, ?_⟩ <;> (rw [cell_of_row _ _ _ _ _ _ h2]; rfl)
/-- the cost of White, or of Black, for an entrant -/
def colV (x : Ent) (white : Bool) : Int := (if (if white then x.blacks < x.whites else x.whites < x.blacks) then 2 else 0) + (if x.last = (if white then 1 else 2) then 1 else 0)
theorem lcol_w11 (x : Ent) (w : World) (h1 : x.blacks < x.whites) (h2 : x.last = 1) : Calls Tryd.prog 39 #[eV x, .bool true] w fun e w' => e = .returned (.int .i64 3) ∧ Below w.heap.size w w' := by
  have hb1 : Hid (Below w.heap.size w (w.alloc (eC x))) := (Below.refl _ _).alloc (Nat.le_refl _) _
  have hE := EB.new w x
  have c3 := hE.c3
  have c4 := hE.c4
  have c5 := hE.c5
  have f1 : (x.blacks < x.whites) = True := eq_true h1
  have f2 : (x.last == 1) = true := by rw [beq_iff_eq]; exact h2
  clear hE h1 h2
  go_enter Tryd.func39, Tryd.ntmps39
  go_upto_region 1 with fail
  generalize w.alloc (eC x) = w1 at *
  go_wp2_with fail
  go_ret
  exact ⟨rfl, hb1.out⟩
theorem lcol_w10 (x : Ent) (w : World) (h1 : x.blacks < x.whites) (h2 : ¬ x.last = 1) : Calls Tryd.prog 39 #[eV x, .bool true] w fun e w' => e = .returned (.int .i64 2) ∧ Below w.heap.size w w' := by
  have hb1 : Hid (Below w.heap.size w (w.alloc (eC x))) := (Below.refl _ _).alloc (Nat.le_refl _) _
  have hE := EB.new w x
  have c3 := hE.c3
  have c4 := hE.c4
  have c5 := hE.c5
  have f1 : (x.blacks < x.whites) = True := eq_true h1
  have f2 : (x.last == 1) = false := by rw [beq_eq_false_iff_ne]; exact h2
  clear hE h1 h2
  go_enter Tryd.func39, Tryd.ntmps39
  go_upto_region 1 with fail
  generalize w.alloc (eC x) = w1 at *
  go_wp2_with fail
  go_ret
  exact ⟨rfl, hb1.out⟩
theorem lcol_w01 (x : Ent) (w : World) (h1 : ¬ x.blacks < x.whites) (h2 : x.last = 1) : Calls Tryd.prog 39 #[eV x, .bool true] w fun e w' => e = .returned (.int .i64 1) ∧ Below w.heap.size w w' := by
  have hb1 : Hid (Below w.heap.size w (w.alloc (eC x))) := (Below.refl _ _).alloc (Nat.le_refl _) _
  have hE := EB.new w x
  have c3 := hE.c3
  have c4 := hE.c4
  have c5 := hE.c5
  have f1 : (x.blacks < x.whites) = False := eq_false h1
  have f2 : (x.last == 1) = true := by rw [beq_iff_eq]; exact h2
  clear hE h1 h2
  go_enter Tryd.func39, Tryd.ntmps39
  go_upto_region 1 with fail
  generalize w.alloc (eC x) = w1 at *
  go_wp2_with fail
  go_ret
  exact ⟨rfl, hb1.out⟩
theorem lcol_w00 (x : Ent) (w : World) (h1 : ¬ x.blacks < x.whites) (h2 : ¬ x.last = 1) : Calls Tryd.prog 39 #[eV x, .bool true] w fun e w' => e = .returned (.int .i64 0) ∧ Below w.heap.size w w' := by
  have hb1 : Hid (Below w.heap.size w (w.alloc (eC x))) := (Below.refl _ _).alloc (Nat.le_refl _) _
  have hE := EB.new w x
  have c3 := hE.c3
  have c4 := hE.c4
  have c5 := hE.c5
  have f1 : (x.blacks < x.whites) = False := eq_false h1
  have f2 : (x.last == 1) = false := by rw [beq_eq_false_iff_ne]; exact h2
  clear hE h1 h2
  go_enter Tryd.func39, Tryd.ntmps39
  go_upto_region 1 with fail
  generalize w.alloc (eC x) = w1 at *
  go_wp2_with fail
  go_ret
  exact ⟨rfl, hb1.out⟩
theorem lcol_b11 (x : Ent) (w : World) (h1 : x.whites < x.blacks) (h2 : x.last = 2) : Calls Tryd.prog 39 #[eV x, .bool false] w fun e w' => e = .returned (.int .i64 3) ∧ Below w.heap.size w w' := by
  have hb1 : Hid (Below w.heap.size w (w.alloc (eC x))) := (Below.refl _ _).alloc (Nat.le_refl _) _
  have hE := EB.new w x
  have c3 := hE.c3
  have c4 := hE.c4
  have c5 := hE.c5
  have f1 : (x.whites < x.blacks) = True := eq_true h1
  have f2 : (x.last == 2) = true := by rw [beq_iff_eq]; exact h2
  clear hE h1 h2
  go_enter Tryd.func39, Tryd.ntmps39
  go_upto_region 1 with fail
  generalize w.alloc (eC x) = w1 at *
  go_wp2_with fail
  go_ret
  exact ⟨rfl, hb1.out⟩
theorem lcol_b10 (x : Ent) (w : World) (h1 : x.whites < x.blacks) (h2 : ¬ x.last = 2) : Calls Tryd.prog 39 #[eV x, .bool false] w fun e w' => e = .returned (.int .i64 2) ∧ Below w.heap.size w w' := by
  have hb1 : Hid (Below w.heap.size w (w.alloc (eC x))) := (Below.refl _ _).alloc (Nat.le_refl _) _
  have hE := EB.new w x
  have c3 := hE.c3
  have c4 := hE.c4
  have c5 := hE.c5
  have f1 : (x.whites < x.blacks) = True := eq_true h1
  have f2 : (x.last == 2) = false := by rw [beq_eq_false_iff_ne]; exact h2
  clear hE h1 h2
  go_enter Tryd.func39, Tryd.ntmps39
  go_upto_region 1 with fail
  generalize w.alloc (eC x) = w1 at *
  go_wp2_with fail
  go_ret
  exact ⟨rfl, hb1.out⟩
theorem lcol_b01 (x : Ent) (w : World) (h1 : ¬ x.whites < x.blacks) (h2 : x.last = 2) : Calls Tryd.prog 39 #[eV x, .bool false] w fun e w' => e = .returned (.int .i64 1) ∧ Below w.heap.size w w' := by
  have hb1 : Hid (Below w.heap.size w (w.alloc (eC x))) := (Below.refl _ _).alloc (Nat.le_refl _) _
  have hE := EB.new w x
  have c3 := hE.c3
  have c4 := hE.c4
  have c5 := hE.c5
  have f1 : (x.whites < x.blacks) = False := eq_false h1
  have f2 : (x.last == 2) = true := by rw [beq_iff_eq]; exact h2
  clear hE h1 h2
  go_enter Tryd.func39, Tryd.ntmps39
  go_upto_region 1 with fail
  generalize w.alloc (eC x) = w1 at *
  go_wp2_with fail
  go_ret
  exact ⟨rfl, hb1.out⟩
theorem lcol_b00 (x : Ent) (w : World) (h1 : ¬ x.whites < x.blacks) (h2 : ¬ x.last = 2) : Calls Tryd.prog 39 #[eV x, .bool false] w fun e w' => e = .returned (.int .i64 0) ∧ Below w.heap.size w w' := by
  have hb1 : Hid (Below w.heap.size w (w.alloc (eC x))) := (Below.refl _ _).alloc (Nat.le_refl _) _
  have hE := EB.new w x
  have c3 := hE.c3
  have c4 := hE.c4
  have c5 := hE.c5
  have f1 : (x.whites < x.blacks) = False := eq_false h1
  have f2 : (x.last == 2) = false := by rw [beq_eq_false_iff_ne]; exact h2
  clear hE h1 h2
  go_enter Tryd.func39, Tryd.ntmps39
  go_upto_region 1 with fail
  generalize w.alloc (eC x) = w1 at *
  go_wp2_with fail
  go_ret
  exact ⟨rfl, hb1.out⟩
theorem lcolor (x : Ent) (white : Bool) (w : World) : Calls Tryd.prog 39 #[eV x, .bool white] w fun e w' => e = .returned (.int .i64 (colV x white)) ∧ Below w.heap.size w w' := by
  cases white with
  | true =>
    by_cases h1 : x.blacks < x.whites <;> by_cases h2 : x.last = 1
    · exact (lcol_w11 x w h1 h2).mono fun e w' ⟨a, b⟩ => ⟨by rw [a]; simp [colV, h1, h2], b⟩
    · exact (lcol_w10 x w h1 h2).mono fun e w' ⟨a, b⟩ => ⟨by rw [a]; simp [colV, h1, h2], b⟩
    · exact (lcol_w01 x w h1 h2).mono fun e w' ⟨a, b⟩ => ⟨by rw [a]; simp [colV, h1, h2], b⟩
    · exact (lcol_w00 x w h1 h2).mono fun e w' ⟨a, b⟩ => ⟨by rw [a]; simp [colV, h1, h2], b⟩
  | false =>
    by_cases h1 : x.whites < x.blacks <;> by_cases h2 : x.last = 2
    · exact (lcol_b11 x w h1 h2).mono fun e w' ⟨a, b⟩ => ⟨by rw [a]; simp [colV, h1, h2], b⟩
    · exact (lcol_b10 x w h1 h2).mono fun e w' ⟨a, b⟩ => ⟨by rw [a]; simp [colV, h1, h2], b⟩
    · exact (lcol_b01 x w h1 h2).mono fun e w' ⟨a, b⟩ => ⟨by rw [a]; simp [colV, h1, h2], b⟩
    · exact (lcol_b00 x w h1 h2).mono fun e w' ⟨a, b⟩ => ⟨by rw [a]; simp [colV, h1, h2], b⟩
end Go.Proofs.YtjjjdoealagpcaaDoor
