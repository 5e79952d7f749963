/- The frame of the cards of layer 2: the listed variable's cells, out of the row's condition; the door's own heap meets it. -/
import Derived.Test.YtmlbaghbdhogpaaDoorRows
import Derived.Test.YtmlbaghbdhogpaaDoorFlat
import Derived.Test.YtmlbaghbdhogpaaDoorPlain
import Derived.WalkKit
import Derived.ProofKit
import Derived.OpenShut
import Derived.LaidMore
import Derived.Stop.Joined
namespace Go.Proofs.YtmlbaghbdhogpaaDoor
open Go.ChangeShapes Go.WideShapes Go.ChangeAt Go.RowKit
set_option linter.unusedVariables false

theorem own : ownKnob Tryd.prog.godebug = none := by kernel_rfl
theorem laidOut : laidOutB Tryd.prog = true := by kernel_rfl
theorem gKinds : Tryd.prog.globalNamed "caissa/piece.kinds" = some 0 := by kernel_rfl
theorem tKinds : (Tryd.prog.globals[0]?).map (·.type) = some 49 := by kernel_rfl

theorem door_met (os : Os) (args : Array Value) : laidMetH Tryd.prog [("caissa/piece.kinds", Rows.laid_caissa_piece_kinds)] ((World.doorLaid Tryd.prog 400 os).forCall (fun _ _ => 0) ⟨#[], args, []⟩).memory :=
  laidMetH_of_parts3 (fuel := 8) (laidMet_of_run' 8 (by kernel_rfl) (by kernel_rfl)) (by kernel_rfl) (by kernel_rfl)

theorem kinds_cells : ∀ k, k < 15 → cellAt (H := Unit) Tryd.prog 3 49 Rows.laid_caissa_piece_kinds (k * 3) = some (.int .u8 (letAt k)) ∧
    cellAt (H := Unit) Tryd.prog 3 49 Rows.laid_caissa_piece_kinds (k * 3 + 1) = some (.int .i64 (valAt k)) ∧
    cellAt (H := Unit) Tryd.prog 3 49 Rows.laid_caissa_piece_kinds (k * 3 + 2) = some (.string ⟨(namAt k).toArray⟩) := by
  intro k h
  obtain rfl | rfl | rfl | rfl | rfl | rfl | rfl | rfl | rfl | rfl | rfl | rfl | rfl | rfl | rfl : k = 0 ∨ k = 1 ∨ k = 2 ∨ k = 3 ∨ k = 4 ∨ k = 5 ∨ k = 6 ∨ k = 7 ∨ k = 8 ∨ k = 9 ∨ k = 10 ∨ k = 11 ∨ k = 12 ∨ k = 13 ∨ k = 14 := by omega
  all_goals exact ⟨by kernel_rfl, by kernel_rfl, by kernel_rfl⟩

theorem of_laid {W : World} (h : laidMetH Tryd.prog [("caissa/piece.kinds", Rows.laid_caissa_piece_kinds)] W) : KindsAt W := by
  rw [MakeChecks.laidMetH_plain _ _ _ (by kernel_rfl)] at h
  obtain ⟨ps, ⟨g0, t0, cs0, f0, p0, q0, hg0, ht0, hv0, hd0, _, _⟩, _, _⟩ := h
  obtain rfl := Option.some.inj (gKinds.symm.trans hg0)
  obtain rfl := Option.some.inj (tKinds.symm.trans ht0)
  have hc : ∀ i v, cellAt (H := Unit) Tryd.prog 3 49 Rows.laid_caissa_piece_kinds i = some v → W.cell? ⟨0, i, none⟩ = some v := fun i v hi => by
    have h1 := World.var?_cell hg0 hv0 i
    have h2 := cellAt_of 3 _ _ _ _ _ i v hd0 hi
    rw [h1]
    simpa using h2
  refine ⟨fun k h => hc _ _ (kinds_cells k h).1, fun k h => hc _ _ (kinds_cells k h).2.1, fun k h => hc _ _ (kinds_cells k h).2.2, ?_⟩
  have h0 := hc _ _ (kinds_cells 0 (by decide)).1
  exact Nat.pos_of_ne_zero fun e => by
    simp [World.cell?, e] at h0
theorem wf_u8 {n : Int} (h : (Lit.int .u8 n).wf = true) : 0 ≤ n ∧ n ≤ 255 := by
  unfold Lit.wf at h
  rw [Bool.and_eq_true, decide_eq_true_eq, decide_eq_true_eq] at h
  rw [show IntKind.u8.min = 0 by rfl, show IntKind.u8.max = 255 by rfl] at h
  exact h
end Go.Proofs.YtmlbaghbdhogpaaDoor
