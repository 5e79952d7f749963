/- Layer 7: the law MoveValid. -/
import Derived.Test.YtlnphcdanadaeaaDoorMk
import Derived.Test.YtlnphcdanadaeaaDoorMb
namespace Go.Proofs.YtlnphcdanadaeaaDoor
open Go.RowKit
set_option linter.unusedSimpArgs false
set_option linter.unusedVariables false

/-- the three boxes of the law: the size, two moves; the packages' variables -/
structure VB (f r a b p a' b' p' : Int) (w W : World) : Prop where
  c0 : W.cell? ⟨w.heap.size, 0, none⟩ = some (.int .i64 f)
  c1 : W.cell? ⟨w.heap.size, 1, none⟩ = some (.int .i64 r)
  m0 : W.cell? ⟨w.heap.size + 1, 0, none⟩ = some (.int .i64 a)
  m1 : W.cell? ⟨w.heap.size + 1, 1, none⟩ = some (.int .i64 b)
  m2 : W.cell? ⟨w.heap.size + 1, 2, none⟩ = some (.int .i8 p)
  n0 : W.cell? ⟨w.heap.size + 1 + 1, 0, none⟩ = some (.int .i64 a')
  n1 : W.cell? ⟨w.heap.size + 1 + 1, 1, none⟩ = some (.int .i64 b')
  n2 : W.cell? ⟨w.heap.size + 1 + 1, 2, none⟩ = some (.int .i8 p')
  lt : w.heap.size + 1 + 1 < W.heap.size
  below : Below w.heap.size w W
theorem VB.next {f r a b p a' b' p' : Int} {w W W' : World} (h : VB f r a b p a' b' p' w W) (hb : Below W.heap.size W W') : VB f r a b p a' b' p' w W' := by
  have hl := h.lt
  exact ⟨(hb.cell (p := ⟨w.heap.size, 0, none⟩) (by show w.heap.size < _; omega)).trans h.c0, (hb.cell (p := ⟨w.heap.size, 1, none⟩) (by show w.heap.size < _; omega)).trans h.c1,
    (hb.cell (p := ⟨w.heap.size + 1, 0, none⟩) (by show w.heap.size + 1 < _; omega)).trans h.m0, (hb.cell (p := ⟨w.heap.size + 1, 1, none⟩) (by show w.heap.size + 1 < _; omega)).trans h.m1, (hb.cell (p := ⟨w.heap.size + 1, 2, none⟩) (by show w.heap.size + 1 < _; omega)).trans h.m2,
    (hb.cell (p := ⟨w.heap.size + 1 + 1, 0, none⟩) (by show w.heap.size + 1 + 1 < _; omega)).trans h.n0, (hb.cell (p := ⟨w.heap.size + 1 + 1, 1, none⟩) (by show w.heap.size + 1 + 1 < _; omega)).trans h.n1, (hb.cell (p := ⟨w.heap.size + 1 + 1, 2, none⟩) (by show w.heap.size + 1 + 1 < _; omega)).trans h.n2,
    by have := hb.size; omega, h.below.trans (hb.mono h.below.size)⟩
theorem VB.drew {f r a b p a' b' p' : Int} {w W : World} (h : VB f r a b p a' b' p' w W) : VB f r a b p a' b' p' w W.drew := ⟨h.c0, h.c1, h.m0, h.m1, h.m2, h.n0, h.n1, h.n2, h.lt, h.below.drew⟩
theorem VB.first (f r a b p a' b' p' : Int) (w : World) (t t2 t3 : TypeId) : VB f r a b p a' b' p' w (((w.alloc (.cells #[.int .i64 f, .int .i64 r] t)).alloc (.cells #[.int .i64 a, .int .i64 b, .int .i8 p] t2)).alloc (.cells #[.int .i64 a', .int .i64 b', .int .i8 p'] t3)) := by
  have hM := MB.first f r a b p w t t2
  generalize hW : (w.alloc (.cells #[.int .i64 f, .int .i64 r] t)).alloc (.cells #[.int .i64 a, .int .i64 b, .int .i8 p] t2) = W2 at hM ⊢
  have hs : W2.heap.size = w.heap.size + 1 + 1 := by rw [← hW, World.size_alloc, World.size_alloc]
  have hT := tri_new W2 (w.heap.size + 1 + 1) (.int .i64 a') (.int .i64 b') (.int .i8 p') t3 hs.symm
  have hb : Below W2.heap.size W2 (W2.alloc (.cells #[.int .i64 a', .int .i64 b', .int .i8 p'] t3)) := (Below.refl _ _).alloc (Nat.le_refl _) _
  have hl := hM.lt
  have hM2 := hM.next hb
  exact ⟨hM2.c0, hM2.c1, hM2.m0, hM2.m1, hM2.m2, hT.c0, hT.c1, hT.c2, hT.lt, hM2.below⟩
set_option maxRecDepth 100000 in
set_option maxHeartbeats 1000000 in
theorem law_valid (f r a b p a' b' p' : Int) (w : World) (hE : EnvAt w) (hp : -128 ≤ p) (hp1 : p ≤ 127) (hq : -128 ≤ p') (hq1 : p' ≤ 127) : Calls Tryd.prog 7 #[.agg #[.int .i64 f, .int .i64 r], .agg #[.int .i64 a, .int .i64 b, .int .i8 p], .agg #[.int .i64 a', .int .i64 b', .int .i8 p']] w fun e w' => e = .returned (.bool true) ∧ Below w.heap.size w w' := by
  have hK := Lib.hid (VB.first f r a b p a' b' p' w 23 27 27)
  have hEW : Hid (∀ W, Below w.heap.size w W → EnvAt W) := fun W hb => hE.next hb
  have h1 := Lib.hid hp
  have h2 := Lib.hid hp1
  have h3 := Lib.hid hq
  have h4 := Lib.hid hq1
  clear hE hp hp1 hq hq1
  generalize hv : mvB f r a b p = V
  generalize hc : cmpV a b p a' b' p' = C
  replace hv := Lib.hid hv
  replace hc := Lib.hid hc
  go_enter Tryd.func7, Tryd.ntmps7
  go_upto_region 1 with fail
  obtain ⟨W, hW⟩ : ∃ W, ((w.alloc (.cells #[.int .i64 f, .int .i64 r] 23)).alloc (.cells #[.int .i64 a, .int .i64 b, .int .i8 p] 27)).alloc (.cells #[.int .i64 a', .int .i64 b', .int .i8 p'] 27) = W := ⟨_, rfl⟩
  rw [hW] at hK ⊢
  clear hW
  go_region_held3 (fun w' => w'.cell? ⟨w.heap.size, 0, none⟩ = some (.int .i64 f) ∧ w'.cell? ⟨w.heap.size, 1, none⟩ = some (.int .i64 r) ∧ w'.cell? ⟨w.heap.size + 1, 0, none⟩ = some (.int .i64 a) ∧ w'.cell? ⟨w.heap.size + 1, 1, none⟩ = some (.int .i64 b) ∧ w'.cell? ⟨w.heap.size + 1, 2, none⟩ = some (.int .i8 p) ∧ w'.cell? ⟨w.heap.size + 1 + 1, 0, none⟩ = some (.int .i64 a') ∧ w'.cell? ⟨w.heap.size + 1 + 1, 1, none⟩ = some (.int .i64 b') ∧ w'.cell? ⟨w.heap.size + 1 + 1, 2, none⟩ = some (.int .i8 p')) (exact ⟨hK.out.c0, hK.out.c1, hK.out.m0, hK.out.m1, hK.out.m2, hK.out.n0, hK.out.n1, hK.out.n2⟩)
    (first
    | (go_at_call 21; refine (pmvalid _ _ _ _ _ _).mono ?_; rintro e w1 ⟨rfl, hb1⟩; rw [hv.out]; replace hK : Hid (VB f r a b p a' b' p' w w1) := (by first | exact hK.out.next hb1 | exact hK.out.next (undrew hb1)); clear hb1)
    | (go_at_call 10; refine (rmvalid _ _ _ _ _ _).mono ?_; rintro e w1 ⟨rfl, hb1⟩; rw [hv.out]; replace hK : Hid (VB f r a b p a' b' p' w w1) := (by first | exact hK.out.next hb1 | exact hK.out.next (undrew hb1)); clear hb1)
    | (go_at_call 22; refine (pcmp _ _ _ _ _ _ _).mono ?_; rintro e w1 ⟨rfl, hb1⟩; rw [hc.out]; replace hK : Hid (VB f r a b p a' b' p' w w1) := (by first | exact hK.out.next hb1 | exact hK.out.next (undrew hb1)); clear hb1)
    | (go_at_call 23; refine (rcmp _ _ _ _ _ _ _ h1.out h2.out h3.out h4.out).mono ?_; rintro e w1 ⟨rfl, hb1⟩; rw [hc.out]; replace hK : Hid (VB f r a b p a' b' p' w w1) := (by first | exact hK.out.next hb1 | exact hK.out.next (undrew hb1)); clear hb1)
    | (go_at_call 11; refine (known_7 _ (by first | exact hEW.out _ hK.out.below | exact hEW.out _ hK.out.drew.below)).mono ?_; rintro e w1 ⟨rfl, hb1⟩; replace hK : Hid (VB f r a b p a' b' p' w w1) := (by first | exact hK.out.next hb1 | exact hK.out.next (undrew hb1)); clear hb1))
  all_goals
    go_wp2
    go_ret
    exact ⟨rfl, hK.out.below⟩
end Go.Proofs.YtlnphcdanadaeaaDoor
