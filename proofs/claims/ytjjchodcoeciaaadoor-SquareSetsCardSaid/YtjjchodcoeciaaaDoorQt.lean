/- Layer 1: the reference's lists of squares. -/
import Derived.Test.YtjjchodcoeciaaaDoorQq
namespace Go.Proofs.YtjjchodcoeciaaaDoor
open Go.RowKit
set_option linter.unusedSimpArgs false
set_option linter.unusedVariables false

theorem rhas (m k : Nat) (w : World) (hk : k < 64) : Calls Tryd.prog 38 #[.int .u64 (m : Int), .int .i64 (k : Int)] w fun e w' => e = .returned (.bool (m.testBit k)) ∧ w = w' := by
  have hd : (m : Int) / 2 ^ k = ((m / 2 ^ k : Nat) : Int) := by simp
  have hd' : (m : Int) / 2 ^ (k : Int).toNat = ((m / 2 ^ k : Nat) : Int) := by simp
  have ht := Nat.testBit_eq_decide_div_mod_eq (x := m) (i := k)
  generalize m / 2 ^ k = q at *
  rcases (by omega : q % 2 = 0 ∨ q % 2 = 1) with h | h
  · have hb : Hid (m.testBit k = false) := by unfold Hid; rw [ht]; simp [h]
    have h1 : (q : Int).tmod 2 = 0 := by rw [Int.tmod_eq_emod_of_nonneg (by omega)]; omega
    have h2 : (q : Int) % 2 = 0 := by omega
    clear ht
    go_enter Tryd.func38, Tryd.ntmps38
    go_wp2
    go_ret
    exact ⟨by rw [hb.out]; rfl, rfl⟩
  · have hb : Hid (m.testBit k = true) := by unfold Hid; rw [ht]; simp [h]
    have h1 : (q : Int).tmod 2 = 1 := by rw [Int.tmod_eq_emod_of_nonneg (by omega)]; omega
    have h2 : (q : Int) % 2 = 1 := by omega
    clear ht
    go_enter Tryd.func38, Tryd.ntmps38
    go_wp2
    go_ret
    exact ⟨by rw [hb.out]; rfl, rfl⟩
/-- the squares of a set below k, in order -/
def LI (m k : Nat) : List Int := ((List.range k).filter fun a => m.testBit a).map fun n : Nat => (n : Int)
theorem LI_yes {m k : Nat} (h : m.testBit k = true) : LI m k ++ [(k : Int)] = LI m (k + 1) := by simp [LI, List.range_succ, List.filter_append, h]
theorem LI_no {m k : Nat} (h : m.testBit k = false) : LI m (k + 1) = LI m k := by simp [LI, List.range_succ, List.filter_append, h]
theorem LI_len (m k : Nat) : (LI m k).length ≤ k := by
  unfold LI
  rw [List.length_map]
  exact Nat.le_trans (List.length_filter_le _ _) (by simp)
theorem LI_mem {m k : Nat} {x : Int} (h : x ∈ LI m k) : 0 ≤ x ∧ x < (k : Int) := by
  unfold LI at h
  simp only [List.mem_map, List.mem_filter, List.mem_range] at h
  obtain ⟨n, ⟨hn, _⟩, rfl⟩ := h
  omega
set_option maxHeartbeats 1000000 in
theorem rlist (m : Nat) (w : World) : Calls Tryd.prog 36 #[.int .u64 (m : Int)] w fun e w' => (∃ A c, e = .returned (.slice A (LI m 64).length c) ∧ RecAt iEnc 1 w' w'.heap.size A (LI m 64)) ∧ Below w.heap.size w w' := by
  go_enter Tryd.func36, Tryd.ntmps36
  go_wp2
  go_loopw [3, 4] (fun s i wr => ∃ (k : Nat) (A : Option Addr) (c : Nat), k ≤ 64 ∧ i = .int .i64 k ∧ s = .slice A (LI m k).length c ∧ Hid (O1 iEnc 1 w.heap.size 3 w wr A c (LI m k))) (fun _ i _ => 64 - (intOf i).toNat)
  case atStart => exact ⟨0, none, 0, by omega, rfl, rfl, ⟨owns_nil, Below.refl _ _, Nat.le_refl _⟩⟩
  case round =>
    obtain ⟨k, A, c, hk, rfl, rfl, hO⟩ := hrel
    have hlen := Lib.hid (LI_len m k)
    by_cases hkn : k < 64
    · have hh := Lib.hid (rhas m k wr hkn)
      cases hb : m.testBit k
      · have hsu := Lib.hid (LI_no hb)
        rw [hb] at hh
        clear hb
        go_wp2_with (go_at_call 38; refine (hh.out).mono ?_; rintro e w' ⟨rfl, rfl⟩)
        go_roundw
        case rel => exact ⟨k + 1, A, c, by omega, by go_num, by rw [hsu.out], by rw [hsu.out]; exact hO⟩
        case measure => simp [intOf]; omega
      · have hsu := Lib.hid (LI_yes hb)
        rw [hb] at hh
        clear hb
        go_wp2_with (first | (go_at_call 38; refine (hh.out).mono ?_; rintro e w' ⟨rfl, rfl⟩) | (at_builtin; refine wpList_append_recs intRow iEnc_len iEnc_one rfl _ _ rfl w.heap.size A c (LI m k) rfl (hO.out.alloc _).own _ 1 [(k : Int)] rfl (recs_int _ _ _) (by have := hlen.out; simp; omega) (hO.out.alloc _).size ?_; intro A' c' w' hown hg _; rw [hsu.out] at hown ⊢; have hO' := Lib.hid ((hO.out.alloc _).app hown hg); clear hown hg))
        go_roundw
        case rel => exact ⟨k + 1, A', c', by omega, by go_num, rfl, hO'⟩
        case measure => simp [intOf]; omega
    · obtain rfl : k = 64 := by omega
      go_wp2
      go_ret
      exact ⟨⟨A, c, rfl, RecAt.of_own iEnc_len rfl hO.out.own⟩, hO.out.below⟩
end Go.Proofs.YtjjchodcoeciaaaDoor
