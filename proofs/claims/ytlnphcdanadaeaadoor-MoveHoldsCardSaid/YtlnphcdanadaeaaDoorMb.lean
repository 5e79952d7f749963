/- Layer 7: the order of two moves, the program's. -/
import Derived.Test.YtlnphcdanadaeaaDoorMa
namespace Go.Proofs.YtlnphcdanadaeaaDoor
open Go.RowKit
set_option linter.unusedSimpArgs false
set_option linter.unusedVariables false

set_option maxRecDepth 100000 in
theorem pcmp (a b p a' b' p' : Int) (w : World) : Calls Tryd.prog 22 #[.agg #[.int .i64 a, .int .i64 b, .int .i8 p], .agg #[.int .i64 a', .int .i64 b', .int .i8 p']] w fun e w' => e = .returned (.int .i64 (cmpV a b p a' b' p')) ∧ Below w.heap.size w w' := by
  have hM := MM.first a b p a' b' p' w 27 27
  have m0 := hM.m0
  have m1 := hM.m1
  have m2 := hM.m2
  have n0 := hM.n0
  have n1 := hM.n1
  have n2 := hM.n2
  clear hM
  have hb := Lib.hid (below_two w (.cells #[.int .i64 a, .int .i64 b, .int .i8 p] 27) (.cells #[.int .i64 a', .int .i64 b', .int .i8 p'] 27))
  go_enter Tryd.func22, Tryd.ntmps22
  go_wp2
  refine wp_region_still_tail 15 (by kernel_rfl) (by kernel_rfl) ?_
  simp only [List.take_succ_cons, List.take_zero, List.drop_succ_cons, List.drop_zero]
  change wpStill _ _ (World.drew _) _ _ _
  obtain ⟨W, hW⟩ : ∃ W, ((w.alloc (.cells #[.int .i64 a, .int .i64 b, .int .i8 p] 27)).alloc (.cells #[.int .i64 a', .int .i64 b', .int .i8 p'] 27)).drew = W := ⟨_, rfl⟩
  have hbW : Hid (Below w.heap.size w W) := by rw [← hW]; exact hb.out.drew
  replace m0 : W.cell? ⟨w.heap.size, 0, none⟩ = some (.int .i64 a) := by rw [← hW]; exact m0
  replace m1 : W.cell? ⟨w.heap.size, 1, none⟩ = some (.int .i64 b) := by rw [← hW]; exact m1
  replace m2 : W.cell? ⟨w.heap.size, 2, none⟩ = some (.int .i8 p) := by rw [← hW]; exact m2
  replace n0 : W.cell? ⟨w.heap.size + 1, 0, none⟩ = some (.int .i64 a') := by rw [← hW]; exact n0
  replace n1 : W.cell? ⟨w.heap.size + 1, 1, none⟩ = some (.int .i64 b') := by rw [← hW]; exact n1
  replace n2 : W.cell? ⟨w.heap.size + 1, 2, none⟩ = some (.int .i8 p') := by rw [← hW]; exact n2
  rw [hW]
  clear hb
  have hWH := Lib.hid hW
  clear hW
  repeat still_step
  still_call ((cmp64 _ _ _).mono fun _ _ h => ⟨h.1, h.2.symm⟩)
  repeat still_step
  still_call ((cmp64 _ _ _).mono fun _ _ h => ⟨h.1, h.2.symm⟩)
  repeat still_step
  still_call ((cmp8' _ _ _).mono fun _ _ h => ⟨h.1, h.2.symm⟩)
  refine wpStill_nil ?_
  change wpList _ _ _ _ _ (World.drew _)
  rw [hWH.out]
  clear hWH
  have q0 : Hid ((W.alloc (.cells #[.int .i64 (ordV a a'), .int .i64 (ordV b b'), .int .i64 (ordV p p')] 3)).cell? ⟨W.heap.size, 0, none⟩ = some (.int .i64 (ordV a a'))) := by show _ = _; rw [cell_of_row _ _ _ _ _ _ (heap_alloc_new _ _)]; rfl
  have q1 : Hid ((W.alloc (.cells #[.int .i64 (ordV a a'), .int .i64 (ordV b b'), .int .i64 (ordV p p')] 3)).cell? ⟨W.heap.size, 1, none⟩ = some (.int .i64 (ordV b b'))) := by show _ = _; rw [cell_of_row _ _ _ _ _ _ (heap_alloc_new _ _)]; rfl
  have q2 : Hid ((W.alloc (.cells #[.int .i64 (ordV a a'), .int .i64 (ordV b b'), .int .i64 (ordV p p')] 3)).cell? ⟨W.heap.size, 2, none⟩ = some (.int .i64 (ordV p p'))) := by show _ = _; rw [cell_of_row _ _ _ _ _ _ (heap_alloc_new _ _)]; rfl
  go_wp2_with (go_at_call 35; refine (por _ _ _ _ _ q0.out q1.out q2.out).mono ?_; rintro e w' ⟨rfl, rfl⟩)
  go_ret
  refine ⟨?_, hbW.out.alloc hbW.out.size _⟩
  show Ending.returned (.int .i64 (orV (ordV a a') (ordV b b') (ordV p p'))) = _
  rw [orV_cmp]
end Go.Proofs.YtlnphcdanadaeaaDoor
