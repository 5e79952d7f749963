/- Layer 45: the contracts of the functions that only compute, and of the expectation. -/
import Derived.Test.YtlmdmdjcokmgjaaDoorRows
import Derived.Test.YtlmdmdjcokmgjaaDoorRa
import Derived.WalkKit
import Derived.Lib.Hide
import Derived.WalkSpells
import Derived.WalkLawsBesides
import Derived.Laws.Rows
import Derived.Outline
namespace Go.Proofs.YtlmdmdjcokmgjaaDoor
open Go.RowKit
set_option linter.unusedSimpArgs false
set_option linter.unusedVariables false

theorem ri {k : IntKind} {a b : Int} (h : a = b) : Ending.returned (.int k a) = .returned (.int k b) := by rw [h]
theorem rb {a b : Bool} (h : a = b) : Ending.returned (.bool a) = .returned (.bool b) := by rw [h]
theorem vi {k : IntKind} {a b : Int} (h : a = b) : Value.int k a = .int k b := by rw [h]

/-- the table of limits in memory -/
def limCells : Array Value := (lims.map (Value.int .i64)).toArray
def LimsAt (w : World) : Prop := ∃ (t : TypeId) (fr : Nat × Nat), w.heap[0]? = some (.cells limCells t fr)
theorem LimsAt.pos {w : World} (h : LimsAt w) : 0 < w.heap.size := by
  obtain ⟨t, fr, h⟩ := h
  rcases Nat.eq_zero_or_pos w.heap.size with h0 | h0
  · rw [Array.getElem?_eq_none (by omega)] at h; cases h
  · exact h0
theorem LimsAt.below {w w' : World} {B : Nat} (h : LimsAt w) (hB : 0 < B) (hb : Below B w w') : LimsAt w' := by
  obtain ⟨t, fr, h⟩ := h
  exact ⟨t, fr, (hb.block 0 hB).trans h⟩
theorem LimsAt.drewN {w : World} (h : LimsAt w) (n : Nat) : LimsAt (w.drewN n) := h
theorem limCells_at (k : Nat) (hk : k < 42) : limCells[k]? = some (.int .i64 (limAt k)) := by
  have hl : k < lims.length := hk
  unfold limCells limAt
  rw [List.getElem?_toArray, List.getElem?_map, List.getElem?_eq_getElem hl]
  simp [List.getD, List.getElem?_eq_getElem hl]
theorem index_lims (k : Nat) (hk : k < 42) (w : World) : (Instr.index 53 (.agg limCells) (.int .i64 (k : Int))).run Tryd.prog w = .ok (.int .i64 (limAt k)) w := by
  have h1 := limCells_at k hk
  have hn : limCells.size = 42 := rfl
  have h2 : ((k : Int).toNat) = k := by omega
  simp [Instr.index, run_underlying Tryd.underlying53, asIntOf, hn, go_sem, h2, hk]
  exact (Array.getElem?_eq_some_iff.1 h1).2

theorem within_yes (x a b : Int) (w : World) (h1 : a ≤ x) (h2 : x ≤ b) : Calls Tryd.prog 19 #[.int .i64 x, .int .i64 a, .int .i64 b] w fun e w' => e = .returned (.bool true) ∧ w = w' := by
  go_enter Tryd.func19, Tryd.ntmps19
  go_wp2
  go_ret
  exact ⟨rfl, rfl⟩
theorem within_no (x a b : Int) (w : World) (h : x < a ∨ b < x) : Calls Tryd.prog 19 #[.int .i64 x, .int .i64 a, .int .i64 b] w fun e w' => e = .returned (.bool false) ∧ w = w' := by
  rcases (by omega : x < a ∨ (a ≤ x ∧ b < x)) with h | ⟨h', h⟩
  · go_enter Tryd.func19, Tryd.ntmps19
    go_wp2
    go_ret
    exact ⟨rfl, rfl⟩
  · go_enter Tryd.func19, Tryd.ntmps19
    go_wp2
    go_ret
    exact ⟨rb (by simp; omega), rfl⟩
/-- is x from a to b? -/
def inB (x a b : Int) : Bool := decide (a ≤ x ∧ x ≤ b)
theorem inB_yes {x a b : Int} (h1 : a ≤ x) (h2 : x ≤ b) : inB x a b = true := decide_eq_true ⟨h1, h2⟩
theorem inB_no {x a b : Int} (h : x < a ∨ b < x) : inB x a b = false := decide_eq_false (by omega)
theorem within (x a b : Int) (w : World) : Calls Tryd.prog 19 #[.int .i64 x, .int .i64 a, .int .i64 b] w fun e w' => e = .returned (.bool (inB x a b)) ∧ w = w' := by
  by_cases h : a ≤ x ∧ x ≤ b
  · rw [inB_yes h.1 h.2]; exact within_yes x a b w h.1 h.2
  · rw [inB_no (by omega)]; exact within_no x a b w (by omega)
theorem rrat_yes (x : Int) (w : World) (h1 : 0 ≤ x) (h2 : x ≤ 4000) : Calls Tryd.prog 9 #[.int .i64 x] w fun e w' => e = .returned (.bool true) ∧ w = w' := by
  go_enter Tryd.func9, Tryd.ntmps9
  go_wp2
  go_ret
  exact ⟨rfl, rfl⟩
theorem rrat_no (x : Int) (w : World) (h : x < 0 ∨ 4000 < x) : Calls Tryd.prog 9 #[.int .i64 x] w fun e w' => e = .returned (.bool false) ∧ w = w' := by
  rcases (by omega : x < 0 ∨ (0 ≤ x ∧ 4000 < x)) with h | ⟨h', h⟩
  · go_enter Tryd.func9, Tryd.ntmps9
    go_wp2
    go_ret
    exact ⟨rfl, rfl⟩
  · go_enter Tryd.func9, Tryd.ntmps9
    go_wp2
    go_ret
    exact ⟨rb (by simp; omega), rfl⟩

theorem rrat (x : Int) (w : World) : Calls Tryd.prog 9 #[.int .i64 x] w fun e w' => e = .returned (.bool (inB x 0 4000)) ∧ w = w' := by
  by_cases h : 0 ≤ x ∧ x ≤ 4000
  · rw [inB_yes h.1 h.2]; exact rrat_yes x w h.1 h.2
  · rw [inB_no (by omega)]; exact rrat_no x w (by omega)

set_option maxHeartbeats 400000 in
theorem pexp_ge (a b : Int) (w : World) (hl : LimsAt w) (a0 : 0 ≤ a) (a1 : a ≤ 4000) (b0 : 0 ≤ b) (b1 : b ≤ 4000) (h : b ≤ a) : Calls Tryd.prog 20 #[.int .i64 a, .int .i64 b] w fun e w' => e = .returned (.int .i64 (expV a b)) ∧ w = w' := by
  obtain ⟨t, fr, hg⟩ := hl
  have hgH := Lib.hid hg
  clear hg
  by_cases h4 : a - b < 400
  · have hv : Hid (expV a b = 50 + cnt (a - b) 42) := by unfold Hid expV; rw [if_neg (by omega), show min 400 (a - b) = a - b by omega]
    go_enter Tryd.func20, Tryd.ntmps20
    go_wp2_with (refine wpList_load_row rfl 53 _ rfl 0 rfl t limCells fr _ hgH.out Tryd.underlying53 rfl (by kernel_rfl) ?_)
    go_loop [6, 21] (fun n i => ∃ k : Nat, k ≤ 42 ∧ i = .int .i64 k ∧ n = .int .i64 (50 + cnt (a - b) k)) (fun _ i => 42 - (intOf i).toNat)
    case atStart => exact ⟨0, by omega, rfl, rfl⟩
    case round =>
      obtain ⟨k, hk, rfl, rfl⟩ := hrel
      have hc := cnt_bd (a - b) k
      obtain ⟨hc0, hc1⟩ := hc
      by_cases hlt : k < 42
      · have hix := index_lims k hlt
        by_cases hlim : limAt k < (a - b)
        · have hs := Lib.hid (cnt_yes hlim)
          go_wp2
          go_round
          case rel => exact ⟨k + 1, by omega, by go_num, by rw [hs.out]; go_num⟩
          case measure => simp [intOf]; omega
        · have hs := Lib.hid (cnt_no hlim)
          go_wp2
          go_round
          case rel => exact ⟨k + 1, by omega, by go_num, by rw [hs.out]⟩
          case measure => simp [intOf]; omega
      · have hge : 42 ≤ k := by omega
        go_wp2
        go_ret
        exact ⟨ri (by rw [hv.out, show k = 42 by omega]), rfl⟩
  · have hv : Hid (expV a b = 50 + cnt 400 42) := by unfold Hid expV; rw [if_neg (by omega), show min 400 (a - b) = 400 by omega]
    go_enter Tryd.func20, Tryd.ntmps20
    go_wp2_with (refine wpList_load_row rfl 53 _ rfl 0 rfl t limCells fr _ hgH.out Tryd.underlying53 rfl (by kernel_rfl) ?_)
    go_loop [6, 21] (fun n i => ∃ k : Nat, k ≤ 42 ∧ i = .int .i64 k ∧ n = .int .i64 (50 + cnt 400 k)) (fun _ i => 42 - (intOf i).toNat)
    case atStart => exact ⟨0, by omega, rfl, rfl⟩
    case round =>
      obtain ⟨k, hk, rfl, rfl⟩ := hrel
      have hc := cnt_bd 400 k
      obtain ⟨hc0, hc1⟩ := hc
      by_cases hlt : k < 42
      · have hix := index_lims k hlt
        by_cases hlim : limAt k < 400
        · have hs := Lib.hid (cnt_yes hlim)
          go_wp2
          go_round
          case rel => exact ⟨k + 1, by omega, by go_num, by rw [hs.out]; go_num⟩
          case measure => simp [intOf]; omega
        · have hs := Lib.hid (cnt_no hlim)
          go_wp2
          go_round
          case rel => exact ⟨k + 1, by omega, by go_num, by rw [hs.out]⟩
          case measure => simp [intOf]; omega
      · have hge : 42 ≤ k := by omega
        go_wp2
        go_ret
        exact ⟨ri (by rw [hv.out, show k = 42 by omega]), rfl⟩
theorem pexp (a b : Int) (w : World) (hl : LimsAt w) (a0 : 0 ≤ a) (a1 : a ≤ 4000) (b0 : 0 ≤ b) (b1 : b ≤ 4000) : Calls Tryd.prog 20 #[.int .i64 a, .int .i64 b] w fun e w' => e = .returned (.int .i64 (expV a b)) ∧ w = w' := by
  by_cases h : b ≤ a
  · exact pexp_ge a b w hl a0 a1 b0 b1 h
  · have hlt : a < b := by omega
    have hv := Lib.hid (expV_lt hlt)
    have hb := expV_bd b a
    obtain ⟨hb0, hb1⟩ := hb
    have hlH := Lib.hid hl
    clear hl
    by_cases h4 : -400 < a - b
    all_goals
      go_enter Tryd.func20, Tryd.ntmps20
      go_wp2_with (go_at_call 20; refine (pexp_ge b a _ hlH.out b0 b1 a0 a1 (by omega)).mono ?_; rintro e w' ⟨rfl, rfl⟩)
      go_ret
      exact ⟨ri (by rw [hv.out]), rfl⟩
end Go.Proofs.YtlmdmdjcokmgjaaDoor
