/- Layer 1: the reference's set of all squares. -/
import Derived.Test.YtjjchodcoeciaaaDoorQm
import Derived.Test.YtjjchodcoeciaaaDoorOw
import Derived.Test.YtjjchodcoeciaaaDoorOx
namespace Go.Proofs.YtjjchodcoeciaaaDoor
open Go.RowKit
set_option linter.unusedSimpArgs false
set_option linter.unusedVariables false

theorem rhas_no (k : Nat) (w : World) (hk : k < 64) : Calls Tryd.prog 38 #[.int .u64 ((2 ^ k - 1 : Nat) : Int), .int .i64 (k : Int)] w fun e w' => e = .returned (.bool false) ∧ w = w' := by
  have h1 : (2 ^ k - 1) / 2 ^ k = 0 := Nat.div_eq_of_lt (by have : 0 < 2 ^ k := Nat.two_pow_pos k; omega)
  have h2 : (((2 ^ k - 1 : Nat) : Int) / 2 ^ k) = 0 := by
    have : (((2 ^ k - 1) / 2 ^ k : Nat) : Int) = 0 := by rw [h1]; rfl
    rw [← this]; simp
  have h3 : (((2 ^ k - 1 : Nat) : Int) / 2 ^ (k : Int).toNat) = 0 := by simpa using h2
  generalize hm : ((2 ^ k - 1 : Nat) : Int) = m at *
  go_enter Tryd.func38, Tryd.ntmps38
  go_wp2
  go_ret
  exact ⟨rfl, rfl⟩
theorem all_step (k : Nat) (hk : k < 64) : IntKind.u64.wrap (((2 ^ k - 1 : Nat) : Int) + IntKind.u64.wrap (2 ^ k)) = ((2 ^ (k + 1) - 1 : Nat) : Int) := by
  have key : ∀ k : Fin 64, IntKind.u64.wrap (((2 ^ k.1 - 1 : Nat) : Int) + IntKind.u64.wrap (2 ^ k.1)) = ((2 ^ (k.1 + 1) - 1 : Nat) : Int) := by decide +kernel
  exact key ⟨k, hk⟩
set_option maxHeartbeats 1000000 in
theorem rof_all (n b off cap : Nat) (w : World) (hn : n ≤ 64) (hc : ∀ j, j < n → w.cell? ⟨b, off + j, none⟩ = some (.int .i64 (j : Int))) :
    Calls Tryd.prog 35 #[.slice (some ⟨b, off, none⟩) n cap] w fun e w' => e = .returned (.int .u64 ((2 ^ n - 1 : Nat) : Int)) ∧ w = w' := by
  have hcH := Lib.hid hc
  clear hc
  go_enter Tryd.func35, Tryd.ntmps35
  go_wp2
  go_loop [3, 4] (fun s i => ∃ k : Nat, k ≤ n ∧ i = .int .i64 k ∧ s = .int .u64 ((2 ^ k - 1 : Nat) : Int)) (fun _ i => n - (intOf i).toNat)
  case atStart => exact ⟨0, by omega, rfl, rfl⟩
  case round =>
    obtain ⟨k, hk, rfl, rfl⟩ := hrel
    by_cases hkn : k < n
    · have hcell := hcH.out k hkn
      have hs := all_step k (by omega)
      have hs' : IntKind.u64.wrap (((2 ^ k - 1 : Nat) : Int) + IntKind.u64.wrap (2 ^ (k : Int).toNat)) = ((2 ^ (k + 1) - 1 : Nat) : Int) := by simpa using hs
      have hh := Lib.hid (rhas_no k w (by omega))
      generalize hm : ((2 ^ k - 1 : Nat) : Int) = m at *
      generalize hm2 : ((2 ^ (k + 1) - 1 : Nat) : Int) = m2 at *
      go_wp2_with (go_at_call 38; refine (hh.out).mono ?_; rintro e w' ⟨rfl, rfl⟩)
      go_round
      case rel => exact ⟨k + 1, by omega, rfl, by rw [hm2]⟩
      case measure => simp [intOf]; omega
    · obtain rfl : k = n := by omega
      go_wp2
      go_ret
      exact ⟨rfl, rfl⟩
end Go.Proofs.YtjjchodcoeciaaaDoor
