/- Layer 45: the new rating, and the functions with errors, of the program. -/
import Derived.Test.YtlmdmdjcokmgjaaDoorRd
namespace Go.Proofs.YtlmdmdjcokmgjaaDoor
open Go.RowKit
set_option linter.unusedSimpArgs false
set_option linter.unusedVariables false

theorem balV_bd (r : Int) (l : List (Int × Int)) (hv : vldG l = true) : -20000 ≤ balV r l ∧ balV r l ≤ 20000 := by
  obtain ⟨hok, hm⟩ := vldG_out hv
  have h := balK_bd r l l.length (Nat.le_refl _) hok
  unfold balV
  omega
theorem mul_bd {k b : Int} (k0 : 1 ≤ k) (k1 : k ≤ 60) (b0 : -20000 ≤ b) (b1 : b ≤ 20000) : -1200000 ≤ k * b ∧ k * b ≤ 1200000 := by
  constructor
  · have h1 : k * -20000 ≤ k * b := Int.mul_le_mul_of_nonneg_left b0 (by omega)
    omega
  · have h1 : k * b ≤ k * 20000 := Int.mul_le_mul_of_nonneg_left b1 (by omega)
    omega

set_option maxHeartbeats 1000000 in
theorem pnext (r k : Int) (A : Option Addr) (l : List (Int × Int)) (c : Nat) (w : World) (hl : LimsAt w) (hg : GamesAt w w.heap.size A l) (r0 : 0 ≤ r) (r1 : r ≤ 4000) (k0 : 1 ≤ k) (k1 : k ≤ 60) (hv : vldG l = true) : Calls Tryd.prog 24 #[.int .i64 r, .int .i64 k, .slice A l.length c] w fun e w' => e = .returned (.int .i64 (nextV r k l)) ∧ Below w.heap.size w w' := by
  have hb := balV_bd r l hv
  obtain ⟨hb0, hb1⟩ := hb
  have hm := mul_bd k0 k1 hb0 hb1
  have hn : Hid (nextV r k l = min 4000 (max 0 (r + roundV (k * balV r l)))) := rfl
  have hlH := Lib.hid hl
  have hgH := Lib.hid hg
  have hvH := Lib.hid hv
  clear hl hg hv
  have hp : Hid (Calls Tryd.prog 23 #[.int .i64 r, .slice A l.length c] w fun e w' => e = .returned (.int .i64 (balV r l)) ∧ Below w.heap.size w w') := pbal r A l c w hlH.out hgH.out r0 r1 hvH.out
  generalize balV r l = b at *
  obtain ⟨hm0, hm1⟩ := hm
  by_cases hneg : k * b < 0
  · have hr : Hid (roundV (k * b) = -((-(k * b) + 50) / 100)) := if_pos hneg
    go_enter Tryd.func24, Tryd.ntmps24
    go_wp2_with (go_at_call 23; refine (hp.out).mono ?_; rintro e w' ⟨rfl, hbw⟩)
    all_goals
      go_ret
      exact ⟨ri (by rw [hn.out, hr.out]; omega), hbw⟩
  · have hr : Hid (roundV (k * b) = (k * b + 50) / 100) := if_neg hneg
    go_enter Tryd.func24, Tryd.ntmps24
    go_wp2_with (go_at_call 23; refine (hp.out).mono ?_; rintro e w' ⟨rfl, hbw⟩)
    all_goals
      go_ret
      exact ⟨ri (by rw [hn.out, hr.out]; omega), hbw⟩

theorem pBal_yes (r : Int) (A : Option Addr) (l : List (Int × Int)) (c : Nat) (w : World) (hl : LimsAt w) (hg : GamesAt w w.heap.size A l) (r0 : 0 ≤ r) (r1 : r ≤ 4000) (hv : vldG l = true) : Calls Tryd.prog 12 #[.int .i64 r, .slice A l.length c] w fun e w' => e = .returned (.tuple #[.int .i64 (balV r l), .int .i64 0]) ∧ Below w.heap.size w w' := by
  have hm := (vldG_out hv).2
  have hrb := inB_yes r0 r1
  have hpos := hl.pos
  have hlH := Lib.hid hl
  have hgH := Lib.hid hg
  have hvH := Lib.hid hv
  clear hl hg
  go_enter Tryd.func12, Tryd.ntmps12
  go_wp2_with (first
    | (go_at_call 19; refine (within _ _ _ _).mono ?_; rintro e w' ⟨rfl, rfl⟩)
    | (go_at_call 22; refine (pvalid _ _ _ _ hgH.out (by unfold maxLen; omega)).mono ?_; rintro e w1 ⟨rfl, hb1⟩)
    | (go_at_call 23; refine (pbal _ _ _ _ _ (hlH.out.below hpos hb1) ((hgH.out.below (Nat.le_refl _) hb1).more hb1.size) r0 r1 hvH.out).mono ?_; rintro e w2 ⟨rfl, hb2⟩))
  go_ret2
  exact ⟨rfl, hb1.trans (hb2.mono hb1.size)⟩
theorem pBal_no (r : Int) (A : Option Addr) (l : List (Int × Int)) (c : Nat) (w : World) (hg : GamesAt w w.heap.size A l) (hm : l.length ≤ maxLen) (h : inB r 0 4000 = false ∨ vldG l = false) : Calls Tryd.prog 12 #[.int .i64 r, .slice A l.length c] w fun e w' => e = .returned (.tuple #[.int .i64 0, .int .i64 2]) ∧ Below w.heap.size w w' := by
  have hgH := Lib.hid hg
  clear hg
  cases hr : inB r 0 4000
  · clear h
    go_enter Tryd.func12, Tryd.ntmps12
    go_wp2_with (go_at_call 19; refine (within _ _ _ _).mono ?_; rintro e w' ⟨rfl, rfl⟩)
    go_ret2
    exact ⟨rfl, Below.refl _ _⟩
  · have hv : vldG l = false := by rcases h with h | h; · rw [hr] at h; cases h
                                   · exact h
    clear h
    go_enter Tryd.func12, Tryd.ntmps12
    go_wp2_with (first
      | (go_at_call 19; refine (within _ _ _ _).mono ?_; rintro e w' ⟨rfl, rfl⟩)
      | (go_at_call 22; refine (pvalid _ _ _ _ hgH.out hm).mono ?_; rintro e w1 ⟨rfl, hb1⟩))
    go_ret2
    exact ⟨rfl, hb1⟩
theorem pNext_yes (r k : Int) (A : Option Addr) (l : List (Int × Int)) (c : Nat) (w : World) (hl : LimsAt w) (hg : GamesAt w w.heap.size A l) (r0 : 0 ≤ r) (r1 : r ≤ 4000) (k0 : 1 ≤ k) (k1 : k ≤ 60) (hv : vldG l = true) : Calls Tryd.prog 13 #[.int .i64 r, .int .i64 k, .slice A l.length c] w fun e w' => e = .returned (.tuple #[.int .i64 (nextV r k l), .int .i64 0]) ∧ Below w.heap.size w w' := by
  have hm := (vldG_out hv).2
  have hrb := inB_yes r0 r1
  have hkb := inB_yes k0 k1
  have hpos := hl.pos
  have hlH := Lib.hid hl
  have hgH := Lib.hid hg
  have hvH := Lib.hid hv
  clear hl hg
  go_enter Tryd.func13, Tryd.ntmps13
  go_wp2_with (first
    | (go_at_call 19; refine (within _ _ _ _).mono ?_; rintro e w' ⟨rfl, rfl⟩)
    | (go_at_call 22; refine (pvalid _ _ _ _ hgH.out (by unfold maxLen; omega)).mono ?_; rintro e w1 ⟨rfl, hb1⟩)
    | (go_at_call 24; refine (pnext _ _ _ _ _ _ (hlH.out.below hpos hb1) ((hgH.out.below (Nat.le_refl _) hb1).more hb1.size) r0 r1 k0 k1 hvH.out).mono ?_; rintro e w2 ⟨rfl, hb2⟩))
  go_ret2
  exact ⟨rfl, hb1.trans (hb2.mono hb1.size)⟩
theorem pNext_no (r k : Int) (A : Option Addr) (l : List (Int × Int)) (c : Nat) (w : World) (hg : GamesAt w w.heap.size A l) (hm : l.length ≤ maxLen) (h : inB r 0 4000 = false ∨ inB k 1 60 = false ∨ vldG l = false) : Calls Tryd.prog 13 #[.int .i64 r, .int .i64 k, .slice A l.length c] w fun e w' => e = .returned (.tuple #[.int .i64 0, .int .i64 2]) ∧ Below w.heap.size w w' := by
  have hgH := Lib.hid hg
  clear hg
  cases hr : inB r 0 4000
  · clear h
    go_enter Tryd.func13, Tryd.ntmps13
    go_wp2_with (go_at_call 19; refine (within _ _ _ _).mono ?_; rintro e w' ⟨rfl, rfl⟩)
    go_ret2
    exact ⟨rfl, Below.refl _ _⟩
  · cases hk : inB k 1 60
    · clear h
      go_enter Tryd.func13, Tryd.ntmps13
      go_wp2_with (go_at_call 19; refine (within _ _ _ _).mono ?_; rintro e w' ⟨rfl, rfl⟩)
      go_ret2
      exact ⟨rfl, Below.refl _ _⟩
    · have hv : vldG l = false := by
        rcases h with h | h | h
        · rw [hr] at h; cases h
        · rw [hk] at h; cases h
        · exact h
      clear h
      go_enter Tryd.func13, Tryd.ntmps13
      go_wp2_with (first
        | (go_at_call 19; refine (within _ _ _ _).mono ?_; rintro e w' ⟨rfl, rfl⟩)
        | (go_at_call 22; refine (pvalid _ _ _ _ hgH.out hm).mono ?_; rintro e w1 ⟨rfl, hb1⟩))
      go_ret2
      exact ⟨rfl, hb1⟩
theorem pExpect_yes (a b : Int) (w : World) (hl : LimsAt w) (a0 : 0 ≤ a) (a1 : a ≤ 4000) (b0 : 0 ≤ b) (b1 : b ≤ 4000) : Calls Tryd.prog 8 #[.int .i64 a, .int .i64 b] w fun e w' => e = .returned (.tuple #[.int .i64 (expV a b), .int .i64 0]) ∧ w = w' := by
  have hab := inB_yes a0 a1
  have hbb := inB_yes b0 b1
  have hlH := Lib.hid hl
  clear hl
  go_enter Tryd.func8, Tryd.ntmps8
  go_wp2_with (first
    | (go_at_call 19; refine (within _ _ _ _).mono ?_; rintro e w' ⟨rfl, rfl⟩)
    | (go_at_call 20; refine (pexp _ _ _ hlH.out a0 a1 b0 b1).mono ?_; rintro e w' ⟨rfl, rfl⟩))
  go_ret2
  exact ⟨rfl, rfl⟩
theorem pExpect_no (a b : Int) (w : World) (h : inB a 0 4000 = false ∨ inB b 0 4000 = false) : Calls Tryd.prog 8 #[.int .i64 a, .int .i64 b] w fun e w' => e = .returned (.tuple #[.int .i64 0, .int .i64 2]) ∧ w = w' := by
  cases ha : inB a 0 4000
  · clear h
    go_enter Tryd.func8, Tryd.ntmps8
    go_wp2_with (go_at_call 19; refine (within _ _ _ _).mono ?_; rintro e w' ⟨rfl, rfl⟩)
    go_ret2
    exact ⟨rfl, rfl⟩
  · have hv : inB b 0 4000 = false := by
      rcases h with h | h
      · rw [ha] at h; cases h
      · exact h
    clear h
    go_enter Tryd.func8, Tryd.ntmps8
    go_wp2_with (go_at_call 19; refine (within _ _ _ _).mono ?_; rintro e w' ⟨rfl, rfl⟩)
    go_ret2
    exact ⟨rfl, rfl⟩
end Go.Proofs.YtlmdmdjcokmgjaaDoor
