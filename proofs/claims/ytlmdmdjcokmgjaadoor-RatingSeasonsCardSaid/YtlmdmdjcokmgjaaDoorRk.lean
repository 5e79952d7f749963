/- Layer 45: the examples of the chapter. -/
import Derived.Test.YtlmdmdjcokmgjaaDoorRh
namespace Go.Proofs.YtlmdmdjcokmgjaaDoor
open Go.RowKit
set_option linter.unusedSimpArgs false
set_option linter.unusedVariables false

theorem games1 (w : World) (x y : Int) (t : TypeId) : GamesAt (w.alloc (.cells #[.int .i64 x, .int .i64 y] t)) (w.alloc (.cells #[.int .i64 x, .int .i64 y] t)).heap.size (some ⟨w.heap.size, 0, none⟩) [(x, y)] := by
  intro _
  refine ⟨w.heap.size, 0, rfl, by simp, fun k hk => ?_⟩
  obtain rfl : k = 0 := by simp at hk; omega
  exact ⟨by simp [gameAt], by simp [gameAt]⟩
theorem games2 (w : World) (x y x' y' : Int) (t : TypeId) : GamesAt (w.alloc (.cells #[.int .i64 x, .int .i64 y, .int .i64 x', .int .i64 y'] t)) (w.heap.size + 1) (some ⟨w.heap.size, 0, none⟩) [(x, y), (x', y')] := by
  intro _
  refine ⟨w.heap.size, 0, rfl, by simp, fun k hk => ?_⟩
  obtain rfl | rfl : k = 0 ∨ k = 1 := by simp at hk; omega
  · exact ⟨by simp [gameAt], by simp [gameAt]⟩
  · exact ⟨by simp [gameAt], by simp [gameAt]⟩

def kl : List (Int × Int) := [(2000, 2), (1996, 1)]
def kl1 : List (Int × Int) := [(2000, 2)]
/-- the state of the walk: the list of two games lies in block L -/
structure KSt (w : World) (L : Nat) (v : World) : Prop where
  below : Below w.heap.size w v
  lo : w.heap.size ≤ L
  hi : L < v.heap.size
  games : GamesAt v (L + 1) (some ⟨L, 0, none⟩) kl
theorem KSt.step {w v u : World} {L : Nat} (h : KSt w L v) (hb : Below v.heap.size v u) : KSt w L u :=
  ⟨h.below.trans (hb.mono h.below.size), h.lo, Nat.lt_of_lt_of_le h.hi hb.size, h.games.below (by have := h.hi; omega) hb⟩
theorem KSt.alloc {w v : World} {L : Nat} (h : KSt w L v) (o : Obj) : KSt w L (v.alloc o) := h.step ((Below.refl _ _).alloc (Nat.le_refl _) _)
theorem KSt.all {w v : World} {L : Nat} (h : KSt w L v) : GamesAt v v.heap.size (some ⟨L, 0, none⟩) kl := h.games.more (by have := h.hi; omega)
theorem KSt.one {w v : World} {L : Nat} (h : KSt w L v) : GamesAt v v.heap.size (some ⟨L, 0, none⟩) kl1 := by
  intro _
  obtain ⟨b, off, e, hlt, hc⟩ := h.all (by decide)
  refine ⟨b, off, e, hlt, fun k hk => ?_⟩
  obtain rfl : k = 0 := by unfold kl1 at hk; simp at hk; omega
  exact hc 0 (by decide)
theorem KSt.lims {w v : World} {L : Nat} (h : KSt w L v) (hl : LimsAt w) : LimsAt v := hl.below hl.pos h.below

theorem k_bal (w : World) (A : Option Addr) (hl : LimsAt w) (hg : GamesAt w w.heap.size A kl) : Calls Tryd.prog 12 #[.int .i64 2000, .slice A 2 2] w fun e w' => e = .returned (.tuple #[.int .i64 49, .int .i64 0]) ∧ Below w.heap.size w w' :=
  pBal_yes 2000 A kl 2 w hl hg (by decide) (by decide) (by decide)
theorem k_next1 (w : World) (A : Option Addr) (hl : LimsAt w) (hg : GamesAt w w.heap.size A kl) : Calls Tryd.prog 13 #[.int .i64 2000, .int .i64 20, .slice A 2 2] w fun e w' => e = .returned (.tuple #[.int .i64 2010, .int .i64 0]) ∧ Below w.heap.size w w' :=
  pNext_yes 2000 20 A kl 2 w hl hg (by decide) (by decide) (by decide) (by decide) (by decide)
theorem k_next2 (w : World) (A : Option Addr) (hl : LimsAt w) (hg : GamesAt w w.heap.size A [(2000, 0)]) : Calls Tryd.prog 13 #[.int .i64 2000, .int .i64 10, .slice A 1 1] w fun e w' => e = .returned (.tuple #[.int .i64 1995, .int .i64 0]) ∧ Below w.heap.size w w' :=
  pNext_yes 2000 10 A [(2000, 0)] 1 w hl hg (by decide) (by decide) (by decide) (by decide) (by decide)
theorem k_next3 (w : World) (A : Option Addr) (hl : LimsAt w) (hg : GamesAt w w.heap.size A kl1) : Calls Tryd.prog 13 #[.int .i64 2000, .int .i64 1, .slice A 1 2] w fun e w' => e = .returned (.tuple #[.int .i64 2001, .int .i64 0]) ∧ Below w.heap.size w w' :=
  pNext_yes 2000 1 A kl1 2 w hl hg (by decide) (by decide) (by decide) (by decide) (by decide)
theorem k_next4 (w : World) (A : Option Addr) (hl : LimsAt w) (hg : GamesAt w w.heap.size A [(3, 0)]) : Calls Tryd.prog 13 #[.int .i64 3, .int .i64 60, .slice A 1 1] w fun e w' => e = .returned (.tuple #[.int .i64 0, .int .i64 0]) ∧ Below w.heap.size w w' :=
  pNext_yes 3 60 A [(3, 0)] 1 w hl hg (by decide) (by decide) (by decide) (by decide) (by decide)
theorem k_perf1 (w : World) (A : Option Addr) (hl : LimsAt w) (hg : GamesAt w w.heap.size A [(2000, 1)]) : Calls Tryd.prog 17 #[.slice A 1 1] w fun e w' => e = .returned (.tuple #[.int .i64 1997, .int .i64 0]) ∧ Below w.heap.size w w' :=
  pPerf_yes 1997 A [(2000, 1)] 1 w hl hg (by decide) (by decide) (perf_of (by decide) (by decide) (fun _ => by decide) (fun _ => by decide))
theorem k_perf2 (w : World) (A : Option Addr) (hl : LimsAt w) (hg : GamesAt w w.heap.size A kl1) : Calls Tryd.prog 17 #[.slice A 1 2] w fun e w' => e = .returned (.tuple #[.int .i64 4000, .int .i64 0]) ∧ Below w.heap.size w w' :=
  pPerf_yes 4000 A kl1 2 w hl hg (by decide) (by decide) (perf_of (by decide) (by decide) (fun h => absurd h (by decide)) (fun _ => by decide))

/-- the table of the examples -/
def ktab : List Int := [2000, 2000, 50, 2000, 1996, 51, 1996, 2000, 49, 2400, 1000, 92, 1000, 2400, 8]
theorem ktab_cells (w : World) (t : TypeId) (j : Nat) (h : j < 15) : (w.alloc (.cells #[.int .i64 2000, .int .i64 2000, .int .i64 50, .int .i64 2000, .int .i64 1996, .int .i64 51, .int .i64 1996, .int .i64 2000, .int .i64 49, .int .i64 2400, .int .i64 1000, .int .i64 92, .int .i64 1000, .int .i64 2400, .int .i64 8] t)).cell? ⟨w.heap.size, j, none⟩ = some (.int .i64 (ktab.getD j 0)) := by
  rw [cell_of_row _ _ _ _ _ _ (heap_alloc_new w _)]
  obtain rfl | rfl | rfl | rfl | rfl | rfl | rfl | rfl | rfl | rfl | rfl | rfl | rfl | rfl | rfl : j = 0 ∨ j = 1 ∨ j = 2 ∨ j = 3 ∨ j = 4 ∨ j = 5 ∨ j = 6 ∨ j = 7 ∨ j = 8 ∨ j = 9 ∨ j = 10 ∨ j = 11 ∨ j = 12 ∨ j = 13 ∨ j = 14 := by omega
  all_goals rfl

set_option maxRecDepth 100000 in
set_option maxHeartbeats 4000000 in
theorem pknown (w : World) (hl : LimsAt w) : Calls Tryd.prog 10 #[] w fun e w' => e = .returned (.bool true) ∧ Below w.heap.size w w' := by
  have hpos := hl.pos
  have hlH := Lib.hid hl
  clear hl
  have e1 : expV 2000 2000 = 50 := by decide
  have e2 : expV 2000 1996 = 51 := by decide
  have e3 : expV 1996 2000 = 49 := by decide
  have e4 : expV 2400 1000 = 92 := by decide
  have e5 : expV 1000 2400 = 8 := by decide
  go_enter Tryd.func10, Tryd.ntmps10
  go_wp2
  go_loopw [27] (fun i wr => ∃ k : Nat, k ≤ 5 ∧ i = .int .i64 k ∧ Below w.heap.size w wr ∧ w.heap.size < wr.heap.size ∧ Hid (∀ j, j < 15 → wr.cell? ⟨w.heap.size, j, none⟩ = some (.int .i64 (ktab.getD j 0)))) (fun i _ => 5 - (intOf i).toNat)
  case atStart => exact ⟨0, by omega, rfl, (Below.refl _ _).alloc (Nat.le_refl _) _, by simp, fun j hj => ktab_cells w _ j hj⟩
  case round =>
    obtain ⟨k, hk, rfl, hb, hsz, hc⟩ := hrel
    have hbH := Lib.hid hb
    clear hb
    have hlw := Lib.hid (hlH.out.below hpos hbH.out)
    by_cases hlt : k < 5
    · obtain rfl | rfl | rfl | rfl | rfl : k = 0 ∨ k = 1 ∨ k = 2 ∨ k = 3 ∨ k = 4 := by omega
      · have c0 : wr.cell? ⟨w.heap.size, 0, none⟩ = some (.int .i64 2000) := hc.out 0 (by decide)
        have c1 : wr.cell? ⟨w.heap.size, 1, none⟩ = some (.int .i64 2000) := hc.out 1 (by decide)
        have c2 : wr.cell? ⟨w.heap.size, 2, none⟩ = some (.int .i64 50) := hc.out 2 (by decide)
        go_wp2_with (go_at_call 8; refine (pExpect_yes _ _ _ (hlw.out.below (by omega) ((Below.refl _ _).alloc (Nat.le_refl _) _)) (by decide) (by decide) (by decide) (by decide)).mono ?_; rintro e w' ⟨rfl, rfl⟩)
        go_roundw
        case rel => exact ⟨1, by omega, rfl, hbH.out.alloc (by omega) _, by simp; omega, fun j hj => (World.cell?_alloc_lt wr _ ⟨w.heap.size, j, none⟩ hsz).trans (hc.out j hj)⟩
        case measure => simp [intOf]
      · have c0 : wr.cell? ⟨w.heap.size, 3, none⟩ = some (.int .i64 2000) := hc.out 3 (by decide)
        have c1 : wr.cell? ⟨w.heap.size, 4, none⟩ = some (.int .i64 1996) := hc.out 4 (by decide)
        have c2 : wr.cell? ⟨w.heap.size, 5, none⟩ = some (.int .i64 51) := hc.out 5 (by decide)
        go_wp2_with (go_at_call 8; refine (pExpect_yes _ _ _ (hlw.out.below (by omega) ((Below.refl _ _).alloc (Nat.le_refl _) _)) (by decide) (by decide) (by decide) (by decide)).mono ?_; rintro e w' ⟨rfl, rfl⟩)
        go_roundw
        case rel => exact ⟨2, by omega, rfl, hbH.out.alloc (by omega) _, by simp; omega, fun j hj => (World.cell?_alloc_lt wr _ ⟨w.heap.size, j, none⟩ hsz).trans (hc.out j hj)⟩
        case measure => simp [intOf]
      · have c0 : wr.cell? ⟨w.heap.size, 6, none⟩ = some (.int .i64 1996) := hc.out 6 (by decide)
        have c1 : wr.cell? ⟨w.heap.size, 7, none⟩ = some (.int .i64 2000) := hc.out 7 (by decide)
        have c2 : wr.cell? ⟨w.heap.size, 8, none⟩ = some (.int .i64 49) := hc.out 8 (by decide)
        go_wp2_with (go_at_call 8; refine (pExpect_yes _ _ _ (hlw.out.below (by omega) ((Below.refl _ _).alloc (Nat.le_refl _) _)) (by decide) (by decide) (by decide) (by decide)).mono ?_; rintro e w' ⟨rfl, rfl⟩)
        go_roundw
        case rel => exact ⟨3, by omega, rfl, hbH.out.alloc (by omega) _, by simp; omega, fun j hj => (World.cell?_alloc_lt wr _ ⟨w.heap.size, j, none⟩ hsz).trans (hc.out j hj)⟩
        case measure => simp [intOf]
      · have c0 : wr.cell? ⟨w.heap.size, 9, none⟩ = some (.int .i64 2400) := hc.out 9 (by decide)
        have c1 : wr.cell? ⟨w.heap.size, 10, none⟩ = some (.int .i64 1000) := hc.out 10 (by decide)
        have c2 : wr.cell? ⟨w.heap.size, 11, none⟩ = some (.int .i64 92) := hc.out 11 (by decide)
        go_wp2_with (go_at_call 8; refine (pExpect_yes _ _ _ (hlw.out.below (by omega) ((Below.refl _ _).alloc (Nat.le_refl _) _)) (by decide) (by decide) (by decide) (by decide)).mono ?_; rintro e w' ⟨rfl, rfl⟩)
        go_roundw
        case rel => exact ⟨4, by omega, rfl, hbH.out.alloc (by omega) _, by simp; omega, fun j hj => (World.cell?_alloc_lt wr _ ⟨w.heap.size, j, none⟩ hsz).trans (hc.out j hj)⟩
        case measure => simp [intOf]
      · have c0 : wr.cell? ⟨w.heap.size, 12, none⟩ = some (.int .i64 1000) := hc.out 12 (by decide)
        have c1 : wr.cell? ⟨w.heap.size, 13, none⟩ = some (.int .i64 2400) := hc.out 13 (by decide)
        have c2 : wr.cell? ⟨w.heap.size, 14, none⟩ = some (.int .i64 8) := hc.out 14 (by decide)
        go_wp2_with (go_at_call 8; refine (pExpect_yes _ _ _ (hlw.out.below (by omega) ((Below.refl _ _).alloc (Nat.le_refl _) _)) (by decide) (by decide) (by decide) (by decide)).mono ?_; rintro e w' ⟨rfl, rfl⟩)
        go_roundw
        case rel => exact ⟨5, by omega, rfl, hbH.out.alloc (by omega) _, by simp; omega, fun j hj => (World.cell?_alloc_lt wr _ ⟨w.heap.size, j, none⟩ hsz).trans (hc.out j hj)⟩
        case measure => simp [intOf]
    · have hge : 5 ≤ k := by omega
      have hS0 : Hid (∀ t, KSt w wr.heap.size (wr.alloc (.cells #[.int .i64 2000, .int .i64 2, .int .i64 1996, .int .i64 1] t))) := fun t => ⟨hbH.out.alloc (by omega) _, by omega, by simp, games2 _ _ _ _ _ _⟩
      have hS0 := Lib.hid (hS0.out 31)
      clear hc
      go_wp2_with fail
      refine (k_bal _ _ (hS0.out.lims hlH.out) hS0.out.all).mono ?_
      rintro e w1 ⟨rfl, hb1⟩
      have hS1 := Lib.hid (hS0.out.step hb1)
      clear hb1 hS0
      go_wp2_with fail
      refine (k_next1 _ _ (hS1.out.lims hlH.out) hS1.out.all).mono ?_
      rintro e w2 ⟨rfl, hb2⟩
      have hS2 := Lib.hid (hS1.out.step hb2)
      clear hb2 hS1
      go_wp2_with fail
      refine (k_next2 _ _ ((hS2.out.alloc _).lims hlH.out) (games1 _ _ _ _)).mono ?_
      rintro e w3 ⟨rfl, hb3⟩
      have hS3 := Lib.hid ((hS2.out.alloc _).step hb3)
      clear hb3 hS2
      go_wp2_with fail
      refine (k_next3 _ _ (hS3.out.lims hlH.out) hS3.out.one).mono ?_
      rintro e w4 ⟨rfl, hb4⟩
      have hS4 := Lib.hid (hS3.out.step hb4)
      clear hb4 hS3
      go_wp2_with fail
      refine (k_next4 _ _ ((hS4.out.alloc _).lims hlH.out) (games1 _ _ _ _)).mono ?_
      rintro e w5 ⟨rfl, hb5⟩
      have hS5 := Lib.hid ((hS4.out.alloc _).step hb5)
      clear hb5 hS4
      go_wp2_with fail
      refine (k_perf1 _ _ ((hS5.out.alloc _).lims hlH.out) (games1 _ _ _ _)).mono ?_
      rintro e w6 ⟨rfl, hb6⟩
      have hS6 := Lib.hid ((hS5.out.alloc _).step hb6)
      clear hb6 hS5
      go_wp2_with fail
      refine (k_perf2 _ _ (hS6.out.lims hlH.out) hS6.out.one).mono ?_
      rintro e w7 ⟨rfl, hb7⟩
      have hS7 := Lib.hid (hS6.out.step hb7)
      clear hb7 hS6
      go_wp2_with fail
      go_ret
      exact ⟨rfl, hS7.out.below⟩
end Go.Proofs.YtlmdmdjcokmgjaaDoor
