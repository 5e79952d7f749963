/- Contracts of functions that another seat has proved already, over this program: XPlain:ri,rb,rt2,vi, XPg. -/
import Derived.WalkKit
import Derived.ProofKit
import Derived.OpenShut
import Derived.Below
import Derived.Lib.Hide
import Derived.Test.YtjjjdoealagpcaaDoorProg
namespace Go.Proofs.YtjjjdoealagpcaaDoor.PC
theorem ri {k : IntKind} {a b : Int} (h : a = b) : Ending.returned (.int k a) = .returned (.int k b) := by rw [h]
theorem rb {a b : Bool} (h : a = b) : Ending.returned (.bool a) = .returned (.bool b) := by rw [h]
theorem rt2 {a b c d : Value} (h : a = b) (k : c = d) : Ending.returned (.tuple #[a, c]) = .returned (.tuple #[b, d]) := by rw [h, k]
theorem vi {k : IntKind} {a b : Int} (h : a = b) : Value.int k a = .int k b := by rw [h]
open Go.RowKit
set_option linter.unusedSimpArgs false
set_option linter.unusedVariables false
/-- may the byte c stand at place k of a name? -/
def okP (k : Nat) (c : Int) : Prop := (97 ≤ c ∧ c ≤ 122) ∨ (65 ≤ c ∧ c ≤ 90) ∨ (0 < k ∧ ((48 ≤ c ∧ c ≤ 57) ∨ c = 45 ∨ c = 95))
instance (k : Nat) (c : Int) : Decidable (okP k c) := by unfold okP; infer_instance
/-- is the string a given name? -/
def givV (s : ByteArray) : Bool := decide (∀ k, (h : k < s.size) → okP k (s[k].toNat : Int)) && decide (1 ≤ s.size ∧ s.size ≤ 32)
theorem givV_no {s : ByteArray} {k : Nat} (h : k < s.size) (hn : ¬ okP k (s[k].toNat : Int)) : givV s = false := by
  unfold givV
  rw [Bool.and_eq_false_iff]; left
  exact decide_eq_false fun hh => hn (hh k h)
theorem givV_all {s : ByteArray} (h : ∀ k, (hk : k < s.size) → okP k (s[k].toNat : Int)) : givV s = decide (1 ≤ s.size ∧ s.size ≤ 32) := by
  unfold givV; rw [decide_eq_true h]; rfl
set_option maxHeartbeats 1000000 in
theorem pvname (s : ByteArray) (w : World) (hs : s.size ≤ maxLen) : Calls Tryd.prog 31 #[.string s] w fun e w' => e = .returned (.bool (givV s)) ∧ w = w' := by
  unfold maxLen at hs
  go_enter Tryd.func31, Tryd.ntmps31
  go_wp2
  go_loop [7] (fun i => ∃ k : Nat, k ≤ s.size ∧ i = .int .i64 k ∧ Hid (∀ j, j < k → (h : j < s.size) → okP j (s[j].toNat : Int))) (fun i => s.size - (intOf i).toNat)
  case atStart => exact ⟨0, by omega, rfl, fun j hj => absurd hj (by omega)⟩
  case round =>
    obtain ⟨k, hk, rfl, hH⟩ := hrel
    by_cases hlt : k < s.size
    · by_cases hok : okP k (s[k].toNat : Int)
      · have hnew : Hid (∀ j, j < k + 1 → (h : j < s.size) → okP j (s[j].toNat : Int)) := fun j hj hj' => by
          by_cases e : j = k
          · subst e; exact hok
          · exact hH.out j (by omega) hj'
        rcases hok with hok | hok | ⟨h0, hok | hok | hok⟩
        · go_wp2
          all_goals
            go_round
            case rel => exact ⟨k + 1, by omega, by go_num, hnew⟩
            case measure => simp [intOf]; omega
        · go_wp2
          all_goals
            go_round
            case rel => exact ⟨k + 1, by omega, by go_num, hnew⟩
            case measure => simp [intOf]; omega
        · go_wp2
          all_goals
            go_round
            case rel => exact ⟨k + 1, by omega, by go_num, hnew⟩
            case measure => simp [intOf]; omega
        · go_wp2
          all_goals
            go_round
            case rel => exact ⟨k + 1, by omega, by go_num, hnew⟩
            case measure => simp [intOf]; omega
        · go_wp2
          all_goals
            go_round
            case rel => exact ⟨k + 1, by omega, by go_num, hnew⟩
            case measure => simp [intOf]; omega
      · have hr : Hid (givV s = false) := givV_no hlt hok
        have hokH : Hid (¬ okP k (s[k].toNat : Int)) := hok
        clear hok
        go_wp2
        all_goals first
          | (go_ret; exact ⟨by rw [hr.out]; rfl, rfl⟩)
          | (exfalso; refine hokH.out ?_; unfold okP; (try simp only [beq_iff_eq, beq_eq_false_iff_ne, ne_eq] at *); omega)
    · have hr : Hid (givV s = decide (1 ≤ s.size ∧ s.size ≤ 32)) := givV_all fun j hj => hH.out j (by omega) hj
      go_wp2
      all_goals
        go_ret
        exact ⟨by rw [hr.out]; exact rb (by first | (rw [decide_eq_decide]; omega) | (symm; simp; omega)), rfl⟩
end Go.Proofs.YtjjjdoealagpcaaDoor.PC
