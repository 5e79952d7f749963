/- Layer 1: the reference's list of points. -/
import Derived.Test.YtjjchodcoeciaaaDoorQp
namespace Go.Proofs.YtjjchodcoeciaaaDoor
open Go.RowKit
set_option linter.unusedSimpArgs false
set_option linter.unusedVariables false

set_option maxHeartbeats 1000000 in
theorem rpoints (f r : Nat) (w : World) (hs : szB (f : Int) (r : Int) = true) : Calls Tryd.prog 17 #[.agg #[.int .i64 (f : Int), .int .i64 (r : Int)]] w fun e w' => (∃ A c, e = .returned (.slice A (r * f) c)) ∧ Below w.heap.size w w' := by
  obtain ⟨f0, f1, r0, r1⟩ := szB_out hs
  have hmul : Hid (∀ k : Nat, (k + 1) * f = k * f + f) := fun k => Nat.succ_mul k f
  have hbd : Hid (∀ k : Nat, k ≤ 8 → k * f ≤ 64) := fun k hk => show k * f ≤ 8 * 8 from Nat.mul_le_mul hk (by omega)
  have hK := Lib.hid (BK.first (f : Int) (r : Int) w 23)
  go_enter Tryd.func17, Tryd.ntmps17
  go_wp2
  generalize hw1 : w.alloc (.cells #[.int .i64 (f : Int), .int .i64 (r : Int)] 23) = w1 at *
  have hlt := hK.out.lt
  go_loopw [3, 4] (fun s i wr => ∃ (k : Nat) (l : List (Int × Int)) (A : Option Addr) (c : Nat), k ≤ r ∧ i = .int .i64 k ∧ s = .slice A l.length c ∧ Hid (l.length = k * f) ∧ Hid (O1 pEnc 2 (w.heap.size + 1) 46 w1 wr A c l)) (fun _ i _ => r - (intOf i).toNat)
  case atStart => exact ⟨0, [], none, 0, by omega, rfl, rfl, by simp [Hid], ⟨owns_nil, Below.refl _ _, hlt⟩⟩
  case round =>
    obtain ⟨k, l, A, c, hk, rfl, rfl, hl, hO⟩ := hrel
    have c1 := (hO.out.below.cell (p := ⟨w.heap.size, 1, none⟩) (Nat.lt_succ_self _)).trans hK.out.c1
    by_cases hkn : k < r
    · go_wp2
      clear c1
      go_loopw [3, 5] (fun s j wv => ∃ (m : Nat) (l : List (Int × Int)) (A : Option Addr) (c : Nat), m ≤ f ∧ j = .int .i64 m ∧ s = .slice A l.length c ∧ Hid (l.length = k * f + m) ∧ Hid (O1 pEnc 2 (w.heap.size + 1) 46 w1 wv A c l)) (fun _ j _ => f - (intOf j).toNat)
      case atStart => exact ⟨0, l, A, c, by omega, rfl, rfl, hl, hO⟩
      case round =>
        obtain ⟨m, l, A, c, hm, rfl, rfl, hl, hO⟩ := hrel
        have c0 := (hO.out.below.cell (p := ⟨w.heap.size, 0, none⟩) (Nat.lt_succ_self _)).trans hK.out.c0
        by_cases hmn : m < f
        · have hlen : Hid ((l ++ [((m : Int), (k : Int))]).length = k * f + (m + 1)) := by
            unfold Hid; rw [List.length_append, hl.out]; rfl
          have hle : Hid (l.length ≤ 100) := by
            have h1 := hbd.out k (by omega); have h2 := hl.out; unfold Hid; omega
          go_wp2_with (at_builtin; refine wpList_append_recs pointRow pEnc_len pEnc_one rfl _ _ rfl (w.heap.size + 1) A c l rfl (hO.out.alloc _).own _ 1 [((m : Int), (k : Int))] rfl (recs_point _ _ _ _) (by have := hle.out; simp; omega) (hO.out.alloc _).size ?_; intro A' c' w' hown hg _; generalize hl2 : l ++ [((m : Int), (k : Int))] = l2 at hown hlen ⊢; have hO' := Lib.hid ((hO.out.alloc _).app hown hg); clear hown hg)
          go_roundw
          case rel => exact ⟨m + 1, l2, A', c', by omega, by go_num, rfl, hlen, hO'⟩
          case measure => simp [intOf]; omega
        · obtain rfl : m = f := by omega
          go_wp2
          go_roundw
          case rel => exact ⟨k + 1, l, A, c, by omega, by go_num, rfl, by rw [hmul.out]; exact hl, hO⟩
          case measure => simp [intOf]; omega
    · obtain rfl : k = r := by omega
      go_wp2
      go_ret
      exact ⟨⟨A, c, by rw [← hl.out]; rfl⟩, hK.out.below.trans (hO.out.below.mono (by omega))⟩
end Go.Proofs.YtjjchodcoeciaaaDoor
