/- Layer 45: the performance: sort.Search over a closure. -/
import Derived.Test.YtlmdmdjcokmgjaaDoorRg
namespace Go.Proofs.YtlmdmdjcokmgjaaDoor
open Go.RowKit
set_option linter.unusedSimpArgs false
set_option linter.unusedVariables false

/-- n is the performance of the games -/
structure PerfIs (l : List (Int × Int)) (n : Int) : Prop where
  lo : 0 ≤ n
  hi : n ≤ 4000
  yes : ∀ j : Int, n ≤ j → j < 4000 → balV j l ≤ 0
  no : ∀ j : Int, 0 ≤ j → j < n → 0 < balV j l
theorem perf_exists (l : List (Int × Int)) : ∃ n, PerfIs l n := by
  have key : ∀ k : Nat, k ≤ 4000 → (∃ n, PerfIs l n) ∨ ∀ j : Int, 0 ≤ j → j < k → 0 < balV j l := by
    intro k
    induction k with
    | zero => intro _; right; intro j h0 h1; omega
    | succ k ih =>
      intro hk
      rcases ih (by omega) with h | h
      · exact .inl h
      · by_cases hb : balV k l ≤ 0
        · left
          refine ⟨k, by omega, by omega, fun j h1 _ => ?_, h⟩
          have := balV_mono h1 l
          omega
        · right
          intro j h0 h1
          by_cases e : j = k
          · subst e; omega
          · exact h j h0 (by omega)
  rcases key 4000 (by omega) with h | h
  · exact h
  · exact ⟨4000, by omega, by omega, fun j h1 h2 => by omega, h⟩
theorem perf_of {l : List (Int × Int)} {n : Int} (h0 : 0 ≤ n) (h1 : n ≤ 4000) (hy : n < 4000 → balV n l ≤ 0) (hn : 0 < n → 0 < balV (n - 1) l) : PerfIs l n :=
  ⟨h0, h1, fun j h2 h3 => by have := balV_mono h2 l; have := hy (by omega); omega, fun j h2 h3 => by have := balV_mono (show j ≤ n - 1 by omega) l; have := hn (by omega); omega⟩

set_option maxHeartbeats 400000 in
theorem pclo (r n : Int) (A : Option Addr) (l : List (Int × Int)) (c B : Nat) (w : World) (hl : LimsAt w) (hg : GamesAt w w.heap.size A l) (hc : w.cell? ⟨B, 0, none⟩ = some (.slice A l.length c)) (r0 : 0 ≤ r) (r1 : r < 4000) (hv : vldG l = true) (hn : PerfIs l n) : Calls Tryd.prog 26 #[.int .i64 r, .pointer (some ⟨B, 0, none⟩)] w fun e w' => e = .returned (.bool (decide (n ≤ r))) ∧ Below w.heap.size w w' := by
  have hr : Hid (decide (balV r l ≤ 0) = decide (n ≤ r)) := by
    unfold Hid
    rw [decide_eq_decide]
    constructor
    · intro h
      apply Classical.byContradiction
      intro h'
      have := hn.no r r0 (by omega)
      omega
    · intro h
      exact hn.yes r h r1
  have hlH := Lib.hid hl
  have hgH := Lib.hid hg
  have hvH := Lib.hid hv
  clear hl hg hv
  go_enter Tryd.func26, Tryd.ntmps26
  go_wp2_with (go_at_call 23; refine (pbal _ _ _ _ _ hlH.out hgH.out r0 (by omega) hvH.out).mono ?_; rintro e w2 ⟨rfl, hb2⟩)
  go_ret
  exact ⟨rb hr.out, hb2⟩

set_option maxHeartbeats 1000000 in
theorem psearch (n : Int) (A : Option Addr) (l : List (Int × Int)) (c B : Nat) (w : World) (hl : LimsAt w) (hg : GamesAt w w.heap.size A l) (hB : B < w.heap.size) (hc : w.cell? ⟨B, 0, none⟩ = some (.slice A l.length c)) (hv : vldG l = true) (hn : PerfIs l n) : Calls Tryd.prog 25 #[.int .i64 4000, .func (.func 26) #[] #[.pointer (some ⟨B, 0, none⟩)]] w fun e w' => e = .returned (.int .i64 n) ∧ Below w.heap.size w w' := by
  have hpos := hl.pos
  obtain ⟨n0, n1⟩ : 0 ≤ n ∧ n ≤ 4000 := ⟨hn.lo, hn.hi⟩
  have hlH := Lib.hid hl
  have hgH := Lib.hid hg
  have hvH := Lib.hid hv
  have hcH := Lib.hid hc
  have hnH := Lib.hid hn
  clear hl hg hv hc hn
  go_enter Tryd.func25, Tryd.ntmps25
  go_wp2
  go_loopw [5, 6] (fun i j wr => ∃ a b : Nat, i = .int .i64 a ∧ j = .int .i64 b ∧ (a : Int) ≤ n ∧ n ≤ (b : Int) ∧ b ≤ 4000 ∧ Below w.heap.size w wr) (fun i j _ => (intOf j).toNat - (intOf i).toNat)
  case atStart => exact ⟨0, 4000, rfl, rfl, by omega, by omega, by omega, Below.refl _ _⟩
  case round =>
    obtain ⟨a, b, rfl, rfl, ha, hb, hb4, hbe⟩ := hrel
    have hsz := hbe.size
    have hbH := Lib.hid hbe
    clear hbe
    by_cases hlt : a < b
    · have hlw := Lib.hid (hlH.out.below hpos hbH.out)
      have hgw := Lib.hid ((hgH.out.below (Nat.le_refl _) hbH.out).more hsz)
      have hcw := Lib.hid ((hbH.out.cell (p := ⟨B, 0, none⟩) hB).trans hcH.out)
      have hm : ((a : Int) + b) / 2 = ((a + b) / 2 : Nat) := by omega
      have hmH := Lib.hid hm
      clear hm
      by_cases hle : n ≤ ((a : Int) + b) / 2
      · have hd : decide (n ≤ ((a : Int) + b) / 2) = true := decide_eq_true hle
        go_wp2_with (go_at_call 26; refine (pclo _ n A l c B _ hlw.out hgw.out hcw.out (by omega) (by omega) hvH.out hnH.out).mono ?_; rintro e w2 ⟨rfl, hb2⟩)
        go_roundw
        case rel => exact ⟨a, (a + b) / 2, rfl, by go_num, ha, by omega, by omega, hbH.out.trans (hb2.mono hsz)⟩
        case measure => simp [intOf]; omega
      · have hd : decide (n ≤ ((a : Int) + b) / 2) = false := decide_eq_false hle
        go_wp2_with (go_at_call 26; refine (pclo _ n A l c B _ hlw.out hgw.out hcw.out (by omega) (by omega) hvH.out hnH.out).mono ?_; rintro e w2 ⟨rfl, hb2⟩)
        go_roundw
        case rel => exact ⟨(a + b) / 2 + 1, b, by go_num, rfl, by omega, hb, by omega, hbH.out.trans (hb2.mono hsz)⟩
        case measure => simp [intOf]; omega
    · go_wp2
      go_ret
      exact ⟨ri (by omega), hbH.out⟩

theorem perf_cell {w w1 : World} {v : Value} {t : TypeId} (hb : Below (w.alloc (.cells #[v] t)).heap.size (w.alloc (.cells #[v] t)) w1) : w1.cell? ⟨w.heap.size, 0, none⟩ = some v := by
  rw [hb.cell (p := ⟨w.heap.size, 0, none⟩) (by simp)]
  simp
theorem perf_size {w w1 : World} {o : Obj} (hb : Below (w.alloc o).heap.size (w.alloc o) w1) : w.heap.size < w1.heap.size := by
  have := hb.size
  simp at this
  omega
theorem perf_below {w w1 : World} {o : Obj} (hb : Below (w.alloc o).heap.size (w.alloc o) w1) : Below w.heap.size w w1 :=
  ((Below.refl _ _).alloc (Nat.le_refl _) _).trans (hb.mono (by simp))
theorem pPerf_no (A : Option Addr) (l : List (Int × Int)) (c : Nat) (w : World) (hg : GamesAt w w.heap.size A l) (hm : l.length ≤ maxLen) (hv : vldG l = false) : Calls Tryd.prog 17 #[.slice A l.length c] w fun e w' => e = .returned (.tuple #[.int .i64 0, .int .i64 2]) ∧ Below w.heap.size w w' := by
  have hgH := Lib.hid hg
  clear hg
  go_enter Tryd.func17, Tryd.ntmps17
  go_wp2_with (go_at_call 22; refine (pvalid _ _ _ _ ((hgH.out.below (Nat.le_refl _) ((Below.refl _ _).alloc (Nat.le_refl _) _)).more (by simp)) hm).mono ?_; rintro e w1 ⟨rfl, hb1⟩)
  go_ret2
  exact ⟨rfl, ((Below.refl _ _).alloc (Nat.le_refl _) _).trans (hb1.mono (by simp))⟩
theorem pPerf_nil (A : Option Addr) (c : Nat) (w : World) : Calls Tryd.prog 17 #[.slice A 0 c] w fun e w' => e = .returned (.tuple #[.int .i64 0, .int .i64 9]) ∧ Below w.heap.size w w' := by
  have hv : vldG [] = true := by decide
  go_enter Tryd.func17, Tryd.ntmps17
  go_wp2_with (go_at_call 22; refine (pvalid _ [] _ _ (fun h => absurd h (by simp)) (by simp)).mono ?_; rintro e w1 ⟨rfl, hb1⟩; have hc0 := hb1.cell (p := ⟨w.heap.size, 0, none⟩) (by simp))
  go_ret2
  exact ⟨rfl, ((Below.refl _ _).alloc (Nat.le_refl _) _).trans (hb1.mono (by simp))⟩
theorem pPerf_yes (n : Int) (A : Option Addr) (l : List (Int × Int)) (c : Nat) (w : World) (hl : LimsAt w) (hg : GamesAt w w.heap.size A l) (hv : vldG l = true) (h0 : 0 < l.length) (hn : PerfIs l n) : Calls Tryd.prog 17 #[.slice A l.length c] w fun e w' => e = .returned (.tuple #[.int .i64 n, .int .i64 0]) ∧ Below w.heap.size w w' := by
  have hm := (vldG_out hv).2
  have hpos := hl.pos
  have hlH := Lib.hid hl
  have hgH := Lib.hid hg
  have hvH := Lib.hid hv
  have hnH := Lib.hid hn
  clear hg hl hn
  go_enter Tryd.func17, Tryd.ntmps17
  go_wp2_with (first
    | (go_at_call 22; refine (pvalid _ _ _ _ ((hgH.out.below (Nat.le_refl _) ((Below.refl _ _).alloc (Nat.le_refl _) _)).more (by simp)) (by unfold maxLen; omega)).mono ?_; rintro e w1 ⟨rfl, hb1⟩; have hc1 := perf_cell hb1; have hsz := perf_size hb1; have hbwH := Lib.hid (perf_below hb1); clear hb1)
    | (go_at_call 25; refine (psearch n A l c _ _ (hlH.out.below hpos hbwH.out) ((hgH.out.below (Nat.le_refl _) hbwH.out).more (by omega)) hsz hc1 hvH.out hnH.out).mono ?_; rintro e w2 ⟨rfl, hb2⟩))
  go_ret2
  exact ⟨rfl, hbwH.out.trans (hb2.mono (by omega))⟩
end Go.Proofs.YtlmdmdjcokmgjaaDoor
