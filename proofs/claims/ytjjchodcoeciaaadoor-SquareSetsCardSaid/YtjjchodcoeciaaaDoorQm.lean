/- Layer 1: the reference's distance. -/
import Derived.Test.YtjjchodcoeciaaaDoorQk
import Derived.Deep.RegionHeld3
import Derived.Deep.DeepCutAuto
import Derived.Deep.CutRange
import Derived.BigQuiet
namespace Go.Proofs.YtjjchodcoeciaaaDoor
open Go.RowKit
set_option linter.unusedSimpArgs false
set_option linter.unusedVariables false

theorem drew_size (w : World) : w.drew.heap.size = w.heap.size := rfl
theorem kept_cells {B : Nat} {w w' : World} (hb : Below B w w') : ∀ n i : Nat, n < B → w'.cell? ⟨n, i, none⟩ = w.cell? ⟨n, i, none⟩ := fun n i h => hb.cell (p := ⟨n, i, none⟩) h
theorem kept_frozen {B : Nat} {w w' : World} (hb : Below B w w') : ∀ n i : Nat, n < B → w'.frozen? ⟨n, i, none⟩ = w.frozen? ⟨n, i, none⟩ := fun n i h => hb.frozen (p := ⟨n, i, none⟩) h
/-- two cells of a block -/
structure Pair (w : World) (B : Nat) (x y : Value) : Prop where
  c0 : w.cell? ⟨B, 0, none⟩ = some x
  c1 : w.cell? ⟨B, 1, none⟩ = some y
structure Has2 (w : World) (B : Nat) : Prop where
  c0 : (w.cell? ⟨B, 0, none⟩).isSome = true
  c1 : (w.cell? ⟨B, 1, none⟩).isSome = true
theorem pair_new (w : World) (B : Nat) (x y : Value) (t : TypeId) (h : B = w.heap.size) : Pair (w.alloc (.cells #[x, y] t)) B x y := by
  subst h; exact ⟨by simp, by simp⟩
theorem has_new (w : World) (B : Nat) (x y : Value) (t : TypeId) (h : B = w.heap.size) : Has2 (w.alloc (.cells #[x, y] t)) B := by
  subst h; exact ⟨by simp, by simp⟩
theorem pair_alloc {w : World} {B : Nat} {x y : Value} {o : Obj} (h : Pair w B x y) : Pair (w.alloc o) B x y :=
  ⟨(World.cell?_alloc_some w _ o (by rw [h.c0]; rfl)).trans h.c0, (World.cell?_alloc_some w _ o (by rw [h.c1]; rfl)).trans h.c1⟩
theorem has_alloc {w : World} {B : Nat} {o : Obj} (h : Has2 w B) : Has2 (w.alloc o) B :=
  ⟨by rw [World.cell?_alloc_some w _ o h.c0]; exact h.c0, by rw [World.cell?_alloc_some w _ o h.c1]; exact h.c1⟩
theorem pair_drew {w : World} {B : Nat} {x y : Value} (h : Pair w B x y) : Pair w.drew B x y := ⟨h.c0, h.c1⟩
theorem has_drew {w : World} {B : Nat} (h : Has2 w B) : Has2 w.drew B := ⟨h.c0, h.c1⟩
theorem pair_far {w : World} {B C i : Nat} {x y v : Value} (h : Pair w B x y) (hne : C ≠ B) : Pair (w.setCell ⟨C, i, none⟩ v) B x y :=
  ⟨(World.cell?_setCell_far w _ _ _ hne).trans h.c0, (World.cell?_setCell_far w _ _ _ hne).trans h.c1⟩
theorem has_far {w : World} {B C i : Nat} {v : Value} (h : Has2 w B) (hne : C ≠ B) : Has2 (w.setCell ⟨C, i, none⟩ v) B :=
  ⟨by rw [World.cell?_setCell_far w _ _ _ hne]; exact h.c0, by rw [World.cell?_setCell_far w _ _ _ hne]; exact h.c1⟩
theorem has_kept {w w' : World} {B k : Nat} (hc : ∀ n i : Nat, n < k → w'.cell? ⟨n, i, none⟩ = w.cell? ⟨n, i, none⟩) (hk : B < k) (h : Has2 w B) : Has2 w' B :=
  ⟨by rw [hc _ _ hk]; exact h.c0, by rw [hc _ _ hk]; exact h.c1⟩
theorem pair_set {w : World} {B : Nat} {x y : Value} (h : Has2 w B) : Pair ((w.setCell ⟨B, 0, none⟩ x).setCell ⟨B, 1, none⟩ y) B x y := by
  have e1 : ((w.setCell ⟨B, 0, none⟩ x).cell? ⟨B, 1, none⟩).isSome = true := by
    rw [World.cell?_setCell_other w ⟨B, 0, none⟩ ⟨B, 1, none⟩ x (by simp)]; exact h.c1
  refine ⟨?_, World.cell?_setCell_same' _ _ _ e1⟩
  rw [World.cell?_setCell_other _ ⟨B, 1, none⟩ ⟨B, 0, none⟩ y (by simp)]
  exact World.cell?_setCell_same' _ _ _ h.c0
theorem s_box {w w0 W : World} {f r : Int} (c0 : w0.cell? ⟨w.heap.size, 0, none⟩ = some (.int .i64 f)) (c1 : w0.cell? ⟨w.heap.size, 1, none⟩ = some (.int .i64 r)) (h : Below (w.heap.size + 1) w0 W) :
    W.cell? ⟨w.heap.size, 0, none⟩ = some (.int .i64 f) ∧ W.cell? ⟨w.heap.size, 1, none⟩ = some (.int .i64 r) :=
  ⟨(h.cell (p := ⟨w.heap.size, 0, none⟩) (Nat.lt_succ_self _)).trans c0, (h.cell (p := ⟨w.heap.size, 1, none⟩) (Nat.lt_succ_self _)).trans c1⟩
set_option maxRecDepth 100000 in
set_option maxHeartbeats 4000000 in
theorem rdist (f r a b : Int) (w : World) (ha : sqB f r a = true) (hb : sqB f r b = true) : Calls Tryd.prog 29 #[.agg #[.int .i64 f, .int .i64 r], .int .i64 a, .int .i64 b] w fun e w' => e = .returned (.int .i64 (distV f a b)) ∧ Below w.heap.size w w' := by
  have hK := Lib.hid (BK.first f r w 23)
  have c0 := hK.out.c0
  have c1 := hK.out.c1
  have hlt := hK.out.lt
  have haH := Lib.hid ha
  have hbH := Lib.hid hb
  clear ha hb
  go_enter Tryd.func29, Tryd.ntmps29
  go_upto_region 1 with fail
  go_cut [7, 8] from 9 to 14 (fun s7 s8 wc => ∃ B1 B2 : Nat, s7 = .pointer (some ⟨B1, 0, none⟩) ∧ s8 = .pointer (some ⟨B2, 0, none⟩) ∧ Pair wc B1 (.int .i64 (a % f)) (.int .i64 (a / f)) ∧ Pair wc B2 (.int .i64 (b % f)) (.int .i64 (b / f)) ∧ Hid (Below w.heap.size w wc))
  case first =>
    generalize w.alloc (.cells #[.int .i64 f, .int .i64 r] 23) = w0 at *
    have hw0 : Hid (Below w.heap.size w w0) := hK.out.below
    go_region_held3 (fun w' => w'.cell? ⟨w.heap.size, 0, none⟩ = some (.int .i64 f) ∧ w'.cell? ⟨w.heap.size, 1, none⟩ = some (.int .i64 r)) (exact s_box c0 c1 (by (repeat (first | exact Below.refl _ _ | exact hX2.out | exact hX1.out | refine Below.drew ?_ | refine Below.alloc ?_ (by simp only [World.size_setCell, World.size_alloc, World.size_drew]; omega) _ | refine Below.alloc ?_ (by omega) _ | refine Below.setCell ?_ (by first | omega | (dsimp only; omega)) _))))
      (first
       | (have hs1' := hs1; go_at_call 24; refine (rplace f r _ _ hbH.out).mono ?_; rintro e w2 ⟨rfl, hb⟩; have hc2 := kept_cells hb; have hf2 := kept_frozen hb; have hs2 := hb.size; (try simp only [World.size_alloc, World.size_drew] at hs2); have hX2 : Hid (Below (w.heap.size + 1) w0 w2) := Below.trans (by (repeat (first | exact Below.refl _ _ | exact hX2.out | exact hX1.out | refine Below.drew ?_ | refine Below.alloc ?_ (by simp only [World.size_setCell, World.size_alloc, World.size_drew]; omega) _ | refine Below.alloc ?_ (by omega) _ | refine Below.setCell ?_ (by first | omega | (dsimp only; omega)) _))) (hb.mono (by (try simp only [World.size_setCell, World.size_alloc, World.size_drew]); omega)); clear hb; (first | have k1 : w0.heap.size < w2.heap.size := by omega | skip); (first | have k2 : w0.heap.size + 1 < w2.heap.size := by omega | skip); (first | have k3 : w1.heap.size < w2.heap.size := by omega | skip); (first | have k4 : w1.heap.size + 1 < w2.heap.size := by omega | skip); (first | (have o3 : w0.heap.size ≠ w2.heap.size := by omega; have o3' := o3.symm) | skip); (first | (have o4 : w1.heap.size ≠ w2.heap.size := by omega; have o4' := o4.symm) | skip))
       | (go_at_call 24; refine (rplace f r _ _ haH.out).mono ?_; rintro e w1 ⟨rfl, hb⟩; have hc1 := kept_cells hb; have hf1 := kept_frozen hb; have hs1 := hb.size; (try simp only [World.size_alloc, World.size_drew] at hs1); have hX1 : Hid (Below (w.heap.size + 1) w0 w1) := Below.trans (by (repeat (first | exact Below.refl _ _ | exact hX2.out | exact hX1.out | refine Below.drew ?_ | refine Below.alloc ?_ (by simp only [World.size_setCell, World.size_alloc, World.size_drew]; omega) _ | refine Below.alloc ?_ (by omega) _ | refine Below.setCell ?_ (by first | omega | (dsimp only; omega)) _))) (hb.mono (by (try simp only [World.size_setCell, World.size_alloc, World.size_drew]); omega)); clear hb; (first | have j1 : w0.heap.size < w1.heap.size := by omega | skip); (first | have j2 : w0.heap.size + 1 < w1.heap.size := by omega | skip); (first | (have m3 : w0.heap.size ≠ w1.heap.size := by omega; have m3' := m3.symm) | skip)))
    all_goals
      go_wp2_with fail
      go_meet
      refine ⟨_, _, rfl, rfl, ?_, ?_, ?_⟩
      · (repeat (first | exact pair_new _ _ _ _ _ (by first | omega | (simp only [World.size_setCell, World.size_alloc, World.size_drew]; done) | (simp only [World.size_setCell, World.size_alloc, World.size_drew]; omega)) | refine pair_set ?_ | refine pair_far ?_ (by first | omega | (simp only [World.size_setCell, World.size_alloc, World.size_drew]; done) | (simp only [World.size_setCell, World.size_alloc, World.size_drew]; omega)) | refine pair_alloc ?_ | refine pair_drew ?_ | exact has_new _ _ _ _ _ (by first | omega | (simp only [World.size_setCell, World.size_alloc, World.size_drew]; done) | (simp only [World.size_setCell, World.size_alloc, World.size_drew]; omega)) | refine has_alloc ?_ | refine has_far ?_ (by first | omega | (simp only [World.size_setCell, World.size_alloc, World.size_drew]; done) | (simp only [World.size_setCell, World.size_alloc, World.size_drew]; omega)) | refine has_drew ?_ | refine has_kept hc2 (by first | omega | (simp only [World.size_setCell, World.size_alloc, World.size_drew]; done) | (simp only [World.size_setCell, World.size_alloc, World.size_drew]; omega)) ?_ | refine has_kept hc1 (by first | omega | (simp only [World.size_setCell, World.size_alloc, World.size_drew]; done) | (simp only [World.size_setCell, World.size_alloc, World.size_drew]; omega)) ?_))
      · (repeat (first | exact pair_new _ _ _ _ _ (by first | omega | (simp only [World.size_setCell, World.size_alloc, World.size_drew]; done) | (simp only [World.size_setCell, World.size_alloc, World.size_drew]; omega)) | refine pair_set ?_ | refine pair_far ?_ (by first | omega | (simp only [World.size_setCell, World.size_alloc, World.size_drew]; done) | (simp only [World.size_setCell, World.size_alloc, World.size_drew]; omega)) | refine pair_alloc ?_ | refine pair_drew ?_ | exact has_new _ _ _ _ _ (by first | omega | (simp only [World.size_setCell, World.size_alloc, World.size_drew]; done) | (simp only [World.size_setCell, World.size_alloc, World.size_drew]; omega)) | refine has_alloc ?_ | refine has_far ?_ (by first | omega | (simp only [World.size_setCell, World.size_alloc, World.size_drew]; done) | (simp only [World.size_setCell, World.size_alloc, World.size_drew]; omega)) | refine has_drew ?_ | refine has_kept hc2 (by first | omega | (simp only [World.size_setCell, World.size_alloc, World.size_drew]; done) | (simp only [World.size_setCell, World.size_alloc, World.size_drew]; omega)) ?_ | refine has_kept hc1 (by first | omega | (simp only [World.size_setCell, World.size_alloc, World.size_drew]; done) | (simp only [World.size_setCell, World.size_alloc, World.size_drew]; omega)) ?_))
      · refine hw0.out.trans (Below.mono (B := w.heap.size + 1) ?_ (Nat.le_succ _))
        (repeat (first | exact Below.refl _ _ | exact hX2.out | exact hX1.out | refine Below.drew ?_ | refine Below.alloc ?_ (by simp only [World.size_setCell, World.size_alloc, World.size_drew]; omega) _ | refine Below.alloc ?_ (by omega) _ | refine Below.setCell ?_ (by first | omega | (dsimp only; omega)) _))
  case rest =>
    obtain ⟨B1, B2, rfl, rfl, hp1, hp2, hbw⟩ := hcut
    have hda := Lib.hid (place_bd haH.out)
    have hdb := Lib.hid (place_bd hbH.out)
    have hsz := Lib.hid (szB_out (sqB_out haH.out).1)
    have p10 := hp1.c0
    have p11 := hp1.c1
    have p20 := hp2.c0
    have p21 := hp2.c1
    obtain ⟨a0, a1, a2, a3, _⟩ := hda.out
    obtain ⟨b0, b1, b2, b3, _⟩ := hdb.out
    obtain ⟨f0, f1, r0, r1⟩ := hsz.out
    generalize hx1 : a % f = x1 at *
    generalize hy1 : a / f = y1 at *
    generalize hx2 : b % f = x2 at *
    generalize hy2 : b / f = y2 at *
    have g1 : IntKind.i64.wrap (x1 - x2) = x1 - x2 := IntWalk.i64_in _ (by omega)
    have g2 : IntKind.i64.wrap (y1 - y2) = y1 - y2 := IntWalk.i64_in _ (by omega)
    have hv : Hid (distV f a b = if ((x1 - x2).natAbs : Int) > ((y1 - y2).natAbs : Int) then ((x1 - x2).natAbs : Int) else ((y1 - y2).natAbs : Int)) := by
      unfold distV Hid; rw [hx1, hx2, hy1, hy2]; omega
    clear hx1 hx2 hy1 hy2
    by_cases hgt : ((x1 - x2).natAbs : Int) > ((y1 - y2).natAbs : Int)
    · go_wp2_with fail
      go_quiet ((go_at_call 43; exact Calls.quiet_of_same ((rabs _ _ (by omega) (by omega)).mono fun _ _ ⟨h1, h2⟩ => ⟨h1, h2.symm⟩)))
      go_wp2_with (go_at_call 43; refine (rabs _ _ (by omega) (by omega)).mono ?_; rintro e w' ⟨rfl, rfl⟩)
      go_ret
      exact ⟨ri (by rw [hv.out, if_pos hgt]), below_drewN hbw.out _⟩
    · go_wp2_with fail
      go_quiet ((go_at_call 43; exact Calls.quiet_of_same ((rabs _ _ (by omega) (by omega)).mono fun _ _ ⟨h1, h2⟩ => ⟨h1, h2.symm⟩)))
      go_wp2_with (go_at_call 43; refine (rabs _ _ (by omega) (by omega)).mono ?_; rintro e w' ⟨rfl, rfl⟩)
      go_ret
      exact ⟨ri (by rw [hv.out, if_neg (by omega)]), below_drewN hbw.out _⟩
end Go.Proofs.YtjjchodcoeciaaaDoor
