/- Layer 45: lists of games in memory: valid, balance, next. -/
import Derived.Test.YtlmdmdjcokmgjaaDoorRb
import Derived.Deep.QuietTactic
import Derived.BigQuiet
import Derived.Deep.Draws
namespace Go.Proofs.YtlmdmdjcokmgjaaDoor
open Go.RowKit
set_option linter.unusedSimpArgs false
set_option linter.unusedVariables false

/-- a list of games in memory, below block B -/
def GamesAt (w : World) (B : Nat) (A : Option Addr) (l : List (Int × Int)) : Prop :=
  0 < l.length → ∃ b off, A = some ⟨b, off, none⟩ ∧ b < B ∧ ∀ k, k < l.length → w.cell? ⟨b, off + k * 2, none⟩ = some (.int .i64 (gameAt l k).1) ∧ w.cell? ⟨b, off + k * 2 + 1, none⟩ = some (.int .i64 (gameAt l k).2)
theorem GamesAt.below {w w' : World} {B B' : Nat} {A : Option Addr} {l : List (Int × Int)} (h : GamesAt w B A l) (hB : B ≤ B') (hb : Below B' w w') : GamesAt w' B A l := by
  intro hl
  obtain ⟨b, off, rfl, hlt, hc⟩ := h hl
  exact ⟨b, off, rfl, hlt, fun k hk => ⟨(hb.cell (p := ⟨b, off + k * 2, none⟩) (by show b < B'; omega)).trans (hc k hk).1, (hb.cell (p := ⟨b, off + k * 2 + 1, none⟩) (by show b < B'; omega)).trans (hc k hk).2⟩⟩
theorem GamesAt.more {w : World} {B B' : Nat} {A : Option Addr} {l : List (Int × Int)} (h : GamesAt w B A l) (hB : B ≤ B') : GamesAt w B' A l := by
  intro hl
  obtain ⟨b, off, e, hlt, hc⟩ := h hl
  exact ⟨b, off, e, by omega, hc⟩

/-- is a list of games valid? -/
def vldG (l : List (Int × Int)) : Bool := decide (∀ k, k < l.length → okG (gameAt l k)) && decide (l.length ≤ 200)
theorem vldG_no {l : List (Int × Int)} {k : Nat} (h : k < l.length) (hn : ¬ okG (gameAt l k)) : vldG l = false := by
  unfold vldG
  rw [Bool.and_eq_false_iff]; left
  exact decide_eq_false fun hh => hn (hh k h)
theorem vldG_all {l : List (Int × Int)} (h : ∀ k, k < l.length → okG (gameAt l k)) : vldG l = decide (l.length ≤ 200) := by
  unfold vldG; rw [decide_eq_true h]; rfl
theorem vldG_out {l : List (Int × Int)} (h : vldG l = true) : (∀ k, k < l.length → okG (gameAt l k)) ∧ l.length ≤ 200 := by
  unfold vldG at h
  rw [Bool.and_eq_true, decide_eq_true_eq, decide_eq_true_eq] at h
  exact h

set_option maxHeartbeats 1000000 in
theorem pvalid (A : Option Addr) (l : List (Int × Int)) (c : Nat) (w : World) (hg : GamesAt w w.heap.size A l) (hm : l.length ≤ maxLen) : Calls Tryd.prog 22 #[.slice A l.length c] w fun e w' => e = .returned (.bool (vldG l)) ∧ Below w.heap.size w w' := by
  unfold maxLen at hm
  have hgH := Lib.hid hg
  clear hg
  go_enter Tryd.func22, Tryd.ntmps22
  go_wp2
  go_loopw [7] (fun i wr => ∃ k : Nat, k ≤ l.length ∧ i = .int .i64 k ∧ Hid (∀ j, j < k → okG (gameAt l j)) ∧ Below w.heap.size w wr) (fun i _ => l.length - (intOf i).toNat)
  case atStart => exact ⟨0, by omega, rfl, fun j hj => absurd hj (by omega), Below.refl _ _⟩
  case round =>
    obtain ⟨k, hk, rfl, hH, hb⟩ := hrel
    have hbH := Lib.hid hb
    clear hb
    by_cases hlt : k < l.length
    · obtain ⟨b, off, rfl, hbl, hc⟩ := hgH.out (by omega)
      have hc1 := (hbH.out.cell (p := ⟨b, off + k * 2, none⟩) hbl).trans (hc k hlt).1
      have hc2 := (hbH.out.cell (p := ⟨b, off + k * 2 + 1, none⟩) hbl).trans (hc k hlt).2
      have hsz := hbH.out.size
      have hno : Hid (¬ okG (gameAt l k) → vldG l = false) := fun h => vldG_no hlt h
      have hnew : Hid (okG (gameAt l k) → ∀ j, j < k + 1 → okG (gameAt l j)) := fun h j hj => by
        by_cases e : j = k
        · subst e; exact h
        · exact hH.out j (by omega)
      clear hc
      generalize hG : gameAt l k = g at *
      clear hG
      obtain ⟨x, y⟩ := g
      by_cases hx : 0 ≤ x ∧ x ≤ 4000
      · have hxb := inB_yes hx.1 hx.2
        by_cases hy : 0 ≤ y ∧ y ≤ 2
        · have hyb := inB_yes hy.1 hy.2
          have hn := hnew.out ⟨hx.1, hx.2, hy.1, hy.2⟩
          have hnH := Lib.hid hn
          clear hn hnew hno hx hy
          go_wp2_with (go_at_call 19; refine (within _ _ _ _).mono ?_; rintro e w' ⟨rfl, rfl⟩)
          go_roundw
          case rel => exact ⟨k + 1, by omega, by go_num, hnH, hbH.out.alloc hsz _⟩
          case measure => simp [intOf]; omega
        · have hyb := inB_no (x := y) (a := 0) (b := 2) (by omega)
          have hr : Hid (vldG l = false) := hno.out (by unfold okG; simp; omega)
          clear hnew hno hx hy
          go_wp2_with (go_at_call 19; refine (within _ _ _ _).mono ?_; rintro e w' ⟨rfl, rfl⟩)
          go_ret
          exact ⟨by rw [hr.out]; rfl, hbH.out.alloc hsz _⟩
      · have hxb := inB_no (x := x) (a := 0) (b := 4000) (by omega)
        have hr : Hid (vldG l = false) := hno.out (by unfold okG; simp; omega)
        clear hnew hno hx
        go_wp2_with (go_at_call 19; refine (within _ _ _ _).mono ?_; rintro e w' ⟨rfl, rfl⟩)
        go_ret
        exact ⟨by rw [hr.out]; rfl, hbH.out.alloc hsz _⟩
    · have hr : Hid (vldG l = decide (l.length ≤ 200)) := vldG_all fun j hj => hH.out j (by omega)
      go_wp2
      go_ret
      exact ⟨by rw [hr.out]; exact rb (by first | rfl | (rw [decide_eq_decide]; omega)), hbH.out⟩
end Go.Proofs.YtlmdmdjcokmgjaaDoor
