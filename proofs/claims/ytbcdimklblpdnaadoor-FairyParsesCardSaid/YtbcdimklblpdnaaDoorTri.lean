/- Three cells of a block through calls, blocks laid, stores: for a struct of three fields that a region draws. No program in sight. -/
import Derived.WalkKit
import Derived.ProofKit
import Derived.Below
import Derived.Lib.Hide
namespace Go.Proofs.YtbcdimklblpdnaaDoor
open Go.RowKit
set_option linter.unusedSimpArgs false
set_option linter.unusedVariables false

theorem kept_cells {B : Nat} {w w' : World} (hb : Below B w w') : ∀ n i : Nat, n < B → w'.cell? ⟨n, i, none⟩ = w.cell? ⟨n, i, none⟩ := fun n i h => hb.cell (p := ⟨n, i, none⟩) h
theorem kept_frozen {B : Nat} {w w' : World} (hb : Below B w w') : ∀ n i : Nat, n < B → w'.frozen? ⟨n, i, none⟩ = w.frozen? ⟨n, i, none⟩ := fun n i h => hb.frozen (p := ⟨n, i, none⟩) h
/-- three cells of a block that may be written -/
structure Tri (w : World) (B : Nat) (x y z : Value) : Prop where
  c0 : w.cell? ⟨B, 0, none⟩ = some x
  c1 : w.cell? ⟨B, 1, none⟩ = some y
  c2 : w.cell? ⟨B, 2, none⟩ = some z
  fr : ∀ i : Nat, w.frozen? ⟨B, i, none⟩ = false
  lt : B < w.heap.size
theorem tri_new (w : World) (B : Nat) (x y z : Value) (t : TypeId) (h : B = w.heap.size) : Tri (w.alloc (.cells #[x, y, z] t)) B x y z := by
  subst h
  have h2 := heap_alloc_new w (.cells #[x, y, z] t)
  refine ⟨?_, ?_, ?_, fun i => ?_, by rw [World.size_alloc]; omega⟩
  · rw [cell_of_row _ _ _ _ _ _ h2]; rfl
  · rw [cell_of_row _ _ _ _ _ _ h2]; rfl
  · rw [cell_of_row _ _ _ _ _ _ h2]; rfl
  · simp only [World.frozen?]
    rw [h2]
    rfl
theorem Tri.drew {w : World} {B : Nat} {x y z : Value} (h : Tri w B x y z) : Tri w.drew B x y z := ⟨h.c0, h.c1, h.c2, h.fr, h.lt⟩
theorem Tri.next {w w' : World} {B : Nat} {x y z : Value} (h : Tri w B x y z) (hb : Below w.heap.size w w') : Tri w' B x y z :=
  ⟨(hb.cell (p := ⟨B, 0, none⟩) h.lt).trans h.c0, (hb.cell (p := ⟨B, 1, none⟩) h.lt).trans h.c1, (hb.cell (p := ⟨B, 2, none⟩) h.lt).trans h.c2, fun i => (hb.frozen (p := ⟨B, i, none⟩) h.lt).trans (h.fr i), Nat.lt_of_lt_of_le h.lt hb.size⟩
theorem Tri.alloc {w : World} {B : Nat} {x y z : Value} (h : Tri w B x y z) (o : Obj) : Tri (w.alloc o) B x y z := h.next ((Below.refl _ _).alloc (Nat.le_refl _) o)
theorem cell_off (W : World) (B i j : Nat) (v : Value) (h : i ≠ j) : (W.setCell ⟨B, i, none⟩ v).cell? ⟨B, j, none⟩ = W.cell? ⟨B, j, none⟩ := by
  apply World.cell?_setCell_other
  simp [h]
theorem nblk_set (w : World) (a : Addr) (v : Value) : (w.setCell a v).heap.size = w.heap.size := by simp [World.setCell]
/-- three cells of a block, set one after the other -/
theorem set3 {W : World} {B : Nat} {u0 u1 u2 : Value} (h0 : W.cell? ⟨B, 0, none⟩ = some u0) (h1 : W.cell? ⟨B, 1, none⟩ = some u1) (h2 : W.cell? ⟨B, 2, none⟩ = some u2) (x y z : Value) :
    (((W.setCell ⟨B, 0, none⟩ x).setCell ⟨B, 1, none⟩ y).setCell ⟨B, 2, none⟩ z).cell? ⟨B, 0, none⟩ = some x ∧ (((W.setCell ⟨B, 0, none⟩ x).setCell ⟨B, 1, none⟩ y).setCell ⟨B, 2, none⟩ z).cell? ⟨B, 1, none⟩ = some y ∧ (((W.setCell ⟨B, 0, none⟩ x).setCell ⟨B, 1, none⟩ y).setCell ⟨B, 2, none⟩ z).cell? ⟨B, 2, none⟩ = some z := by
  refine ⟨?_, ?_, ?_⟩
  · rw [cell_off _ _ _ _ _ (by decide), cell_off _ _ _ _ _ (by decide)]
    exact World.cell?_setCell_same' _ _ _ (by rw [h0]; rfl)
  · rw [cell_off _ _ _ _ _ (by decide)]
    exact World.cell?_setCell_same' _ _ _ (by rw [cell_off _ _ _ _ _ (by decide), h1]; rfl)
  · exact World.cell?_setCell_same' _ _ _ (by rw [cell_off _ _ _ _ _ (by decide), cell_off _ _ _ _ _ (by decide), h2]; rfl)
theorem below_set3 {b : Nat} {W0 W : World} (h : Below b W0 W) {B : Nat} (hB : b ≤ B) (x y z : Value) : Below b W0 (((W.setCell ⟨B, 0, none⟩ x).setCell ⟨B, 1, none⟩ y).setCell ⟨B, 2, none⟩ z) :=
  ((h.setCell (p := ⟨B, 0, none⟩) hB _).setCell (p := ⟨B, 1, none⟩) hB _).setCell (p := ⟨B, 2, none⟩) hB _
theorem Tri.set {w : World} {B : Nat} {u0 u1 u2 : Value} (h : Tri w B u0 u1 u2) (x y z : Value) : Tri (((w.setCell ⟨B, 0, none⟩ x).setCell ⟨B, 1, none⟩ y).setCell ⟨B, 2, none⟩ z) B x y z := by
  obtain ⟨s0, s1, s2⟩ := set3 h.c0 h.c1 h.c2 x y z
  exact ⟨s0, s1, s2, fun i => by rw [World.frozen?_setCell, World.frozen?_setCell, World.frozen?_setCell]; exact h.fr i, by rw [nblk_set, nblk_set, nblk_set]; exact h.lt⟩
end Go.Proofs.YtbcdimklblpdnaaDoor
