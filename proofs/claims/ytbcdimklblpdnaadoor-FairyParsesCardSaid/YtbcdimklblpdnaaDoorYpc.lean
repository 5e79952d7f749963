/- Contracts of functions that another seat has proved already, over this program: XPlain, XPc, XPd, XPe, XPf, XPg, XPh. -/
import Derived.WalkKit
import Derived.ProofKit
import Derived.OpenShut
import Derived.Below
import Derived.Lib.Hide
import Derived.WalkSpells
import Derived.WalkLawsBesides
import Derived.Outline
import Derived.Test.YtbcdimklblpdnaaDoorProg
namespace Go.Proofs.YtbcdimklblpdnaaDoor.PC
open Go.RowKit
set_option linter.unusedSimpArgs false
set_option linter.unusedVariables false
theorem ri {k : IntKind} {a b : Int} (h : a = b) : Ending.returned (.int k a) = .returned (.int k b) := by rw [h]
theorem rb {a b : Bool} (h : a = b) : Ending.returned (.bool a) = .returned (.bool b) := by rw [h]
theorem rt2 {a b c d : Value} (h : a = b) (k : c = d) : Ending.returned (.tuple #[a, c]) = .returned (.tuple #[b, d]) := by rw [h, k]
theorem vi {k : IntKind} {a b : Int} (h : a = b) : Value.int k a = .int k b := by rw [h]
/-- the letters of White's kinds, from kind 1 on -/
def lets : List Int := [80, 78, 66, 82, 81, 75, 65, 67, 68, 69, 70, 71, 72, 73, 74]
def vals : List Int := [1, 3, 3, 5, 9, 0, 0, 0, 0, 0, 0, 0, 0, 0, 0]
def nams : List (List UInt8) := [[112, 97, 119, 110], [107, 110, 105, 103, 104, 116], [98, 105, 115, 104, 111, 112], [114, 111, 111, 107], [113, 117, 101, 101, 110], [107, 105, 110, 103], [102, 97, 105, 114, 121, 45, 97], [102, 97, 105, 114, 121, 45, 99], [102, 97, 105, 114, 121, 45, 100], [102, 97, 105, 114, 121, 45, 101], [102, 97, 105, 114, 121, 45, 102], [102, 97, 105, 114, 121, 45, 103], [102, 97, 105, 114, 121, 45, 104], [102, 97, 105, 114, 121, 45, 105], [102, 97, 105, 114, 121, 45, 106]]
/-- the letter, the value, the name of kind k + 1 -/
def letAt (k : Nat) : Int := lets.getD k 0
def valAt (k : Nat) : Int := vals.getD k 0
def namAt (k : Nat) : List UInt8 := nams.getD k []
/-- what the table of kinds holds in memory -/
structure KindsAt (w : World) : Prop where
  letter : ∀ k : Nat, k < 15 → w.cell? ⟨0, k * 3, none⟩ = some (.int .u8 (letAt k))
  value : ∀ k : Nat, k < 15 → w.cell? ⟨0, k * 3 + 1, none⟩ = some (.int .i64 (valAt k))
  name : ∀ k : Nat, k < 15 → w.cell? ⟨0, k * 3 + 2, none⟩ = some (.string ⟨(namAt k).toArray⟩)
  pos : 0 < w.heap.size
theorem KindsAt.below {w w' : World} {B : Nat} (h : KindsAt w) (hB : 0 < B) (hb : Below B w w') : KindsAt w' :=
  ⟨fun k hk => (hb.cell (p := ⟨0, k * 3, none⟩) hB).trans (h.letter k hk), fun k hk => (hb.cell (p := ⟨0, k * 3 + 1, none⟩) hB).trans (h.value k hk),
   fun k hk => (hb.cell (p := ⟨0, k * 3 + 2, none⟩) hB).trans (h.name k hk), Nat.lt_of_lt_of_le h.pos hb.size⟩
theorem letAt_bd (k : Nat) : 0 ≤ letAt k ∧ letAt k ≤ 82 := by
  by_cases h : k < 15
  · revert k; decide
  · have e : letAt k = 0 := by unfold letAt lets; simp [List.getD, h]
    rw [e]; decide
/-- the letters as the reference has them -/
theorem refUp (k : Nat) (h : k < 15) (hs : k < (ByteArray.mk #[80, 78, 66, 82, 81, 75, 65, 67, 68, 69, 70, 71, 72, 73, 74]).size) : (((ByteArray.mk #[80, 78, 66, 82, 81, 75, 65, 67, 68, 69, 70, 71, 72, 73, 74])[k]'hs).toNat : Int) = letAt k := by
  obtain rfl | rfl | rfl | rfl | rfl | rfl | rfl | rfl | rfl | rfl | rfl | rfl | rfl | rfl | rfl : k = 0 ∨ k = 1 ∨ k = 2 ∨ k = 3 ∨ k = 4 ∨ k = 5 ∨ k = 6 ∨ k = 7 ∨ k = 8 ∨ k = 9 ∨ k = 10 ∨ k = 11 ∨ k = 12 ∨ k = 13 ∨ k = 14 := by omega
  all_goals rfl
theorem refLow (k : Nat) (h : k < 15) (hs : k < (ByteArray.mk #[112, 110, 98, 114, 113, 107, 97, 99, 100, 101, 102, 103, 104, 105, 106]).size) : (((ByteArray.mk #[112, 110, 98, 114, 113, 107, 97, 99, 100, 101, 102, 103, 104, 105, 106])[k]'hs).toNat : Int) = letAt k + 32 := by
  obtain rfl | rfl | rfl | rfl | rfl | rfl | rfl | rfl | rfl | rfl | rfl | rfl | rfl | rfl | rfl : k = 0 ∨ k = 1 ∨ k = 2 ∨ k = 3 ∨ k = 4 ∨ k = 5 ∨ k = 6 ∨ k = 7 ∨ k = 8 ∨ k = 9 ∨ k = 10 ∨ k = 11 ∨ k = 12 ∨ k = 13 ∨ k = 14 := by omega
  all_goals rfl
/-- the value of a piece -/
def valV (p : Int) : Int := if p = 0 then 0 else valAt (p.natAbs - 1)
/-- the letter of a piece -/
def letV (p : Int) : Int := if p < 0 then letAt (p.natAbs - 1) + 32 else letAt (p.natAbs - 1)
theorem letV_bd (p : Int) : 0 ≤ letV p ∧ letV p ≤ 114 := by
  have := letAt_bd (p.natAbs - 1)
  unfold letV; split <;> omega
/-- the piece with a letter -/
def parV (c : Int) : Int := ((List.range 15).findSome? fun k => if letAt k = c then some ((k : Int) + 1) else if letAt k + 32 = c then some (-(k : Int) - 1) else none).getD 0
/-- the error of reading a letter, of finding a name -/
def noE (v : Int) : Int := if v = 0 then 6 else 0
theorem noE_zero : noE 0 = 6 := rfl
theorem noE_pos {v : Int} (h : v ≠ 0) : noE v = 0 := if_neg h
theorem parV_up (k : Nat) (h : k < 15) : parV (letAt k) = k + 1 := by revert k; decide
theorem parV_low (k : Nat) (h : k < 15) : parV (letAt k + 32) = -k - 1 := by revert k; decide
theorem parV_none (c : Int) (h : ∀ k, k < 15 → letAt k ≠ c ∧ letAt k + 32 ≠ c) : parV c = 0 := by
  unfold parV
  rw [List.findSome?_eq_none_iff.2]
  · rfl
  · intro k hk
    have := h k (by simpa using hk)
    rw [if_neg this.1, if_neg this.2]
theorem parV_let (p : Int) (h1 : -15 ≤ p) (h2 : p ≤ 15) (h0 : p ≠ 0) : parV (letV p) = p := by
  unfold letV
  split
  · rw [parV_low _ (by omega)]; omega
  · rw [parV_up _ (by omega)]; omega
theorem parV_no (c : Int) (h : ∀ q : Int, -15 ≤ q → q < 16 → q ≠ 0 → letV q ≠ c) : parV c = 0 := by
  refine parV_none c fun k hk => ⟨?_, ?_⟩
  · have := h ((k : Int) + 1) (by omega) (by omega) (by omega)
    unfold letV at this
    rw [if_neg (by omega), show ((k : Int) + 1).natAbs - 1 = k by omega] at this
    exact this
  · have := h (-(k : Int) - 1) (by omega) (by omega) (by omega)
    unfold letV at this
    rw [if_pos (by omega), show (-(k : Int) - 1).natAbs - 1 = k by omega] at this
    exact this
/-- the kind with a name -/
def finV (s : List UInt8) : Int := ((List.range 15).findSome? fun k => if namAt k = s then some ((k : Int) + 1) else none).getD 0
theorem finV_at (k : Nat) (h : k < 15) : finV (namAt k) = k + 1 := by revert k; decide
theorem finV_none (s : List UInt8) (h : ∀ k, k < 15 → namAt k ≠ s) : finV s = 0 := by
  unfold finV
  rw [List.findSome?_eq_none_iff.2]
  · rfl
  · intro k hk
    have := h k (by simpa using hk)
    rw [if_neg this]
theorem finV_bd (s : List UInt8) : 0 ≤ finV s ∧ finV s ≤ 15 := by
  by_cases h : ∀ k, k < 15 → namAt k ≠ s
  · rw [finV_none s h]; decide
  · obtain ⟨k, hk⟩ := Classical.not_forall.1 h
    have h1 : k < 15 := by apply Classical.byContradiction; intro hn; exact hk (fun h => absurd h hn)
    have h2 : namAt k = s := by apply Classical.byContradiction; intro hn; exact hk (fun _ => hn)
    subst h2; rw [finV_at k h1]; omega
set_option linter.unusedVariables false

theorem pvalid_yes (p : Int) (w : World) (h1 : -15 ≤ p) (h2 : p ≤ 15) : Calls Tryd.prog 51 #[.int .i8 p] w fun e w' => e = .returned (.bool true) ∧ w = w' := by
  go_enter Tryd.func51, Tryd.ntmps51
  go_wp2
  go_ret
  exact ⟨rfl, rfl⟩
theorem pvalid_no (p : Int) (w : World) (h : p < -15 ∨ 15 < p) : Calls Tryd.prog 51 #[.int .i8 p] w fun e w' => e = .returned (.bool false) ∧ w = w' := by
  rcases h with h | h
  · go_enter Tryd.func51, Tryd.ntmps51
    go_wp2
    go_ret
    exact ⟨rfl, rfl⟩
  · have h' : -15 ≤ p := by omega
    go_enter Tryd.func51, Tryd.ntmps51
    go_wp2
    go_ret
    exact ⟨rb (by simp; omega), rfl⟩
/-- whether a piece is orthodox -/
def orthoB (p : Int) : Bool := decide (p ≠ 0 ∧ -6 ≤ p ∧ p ≤ 6)
theorem pname_yes (p : Int) (w : World) (hk : KindsAt w) (h1 : 1 ≤ p) (h2 : p ≤ 15) : Calls Tryd.prog 33 #[.int .i8 p] w fun e w' => e = .returned (.tuple #[.string ⟨(namAt (p.toNat - 1)).toArray⟩, .int .i64 0]) ∧ w = w' := by
  have hc := hk.name (p.toNat - 1) (by omega)
  clear hk
  go_enter Tryd.func33, Tryd.ntmps33
  go_wp2
  go_ret2
  exact ⟨rfl, rfl⟩
theorem pname_no (p : Int) (w : World) (h : p < 1 ∨ 15 < p) : Calls Tryd.prog 33 #[.int .i8 p] w fun e w' => e = .returned (.tuple #[.string ⟨#[]⟩, .int .i64 2]) ∧ w = w' := by
  rcases h with h | h
  · go_enter Tryd.func33, Tryd.ntmps33
    go_wp2
    go_ret2
    exact ⟨rfl, rfl⟩
  · have h' : 1 ≤ p := by omega
    go_enter Tryd.func33, Tryd.ntmps33
    go_wp2
    go_ret2
    exact ⟨rfl, rfl⟩
/-- a string of one byte that was just laid -/
theorem conv1 (w : World) (b : UInt8) (n : Int) (hn : n = (b.toNat : Int)) : (convert 98 9 (.slice (some ⟨w.heap.size, 0, none⟩) 1 1)).run Tryd.prog (w.alloc (.cells #[.int .u8 n] 5)) = .ok (.string ⟨#[b]⟩) (w.alloc (.cells #[.int .u8 n] 5)) := by
  subst hn
  refine run_convert_bytes_back (P := Tryd.prog) (w.alloc (.cells #[.int .u8 (b.toNat : Int)] 5)) 98 9 5 ⟨w.heap.size, 0, none⟩ 1 [b] Tryd.underlying98 Tryd.underlying5 Tryd.underlying9 ?_
  intro j hj
  obtain rfl : j = 0 := by simp at hj; omega
  simp [Addr.add]
/-- may the byte c stand at place k of a name? -/
def okP (k : Nat) (c : Int) : Prop := (97 ≤ c ∧ c ≤ 122) ∨ (65 ≤ c ∧ c ≤ 90) ∨ (0 < k ∧ ((48 ≤ c ∧ c ≤ 57) ∨ c = 45 ∨ c = 95))
instance (k : Nat) (c : Int) : Decidable (okP k c) := by unfold okP; infer_instance
/-- is the string a given name? -/
def givV (s : ByteArray) : Bool := decide (∀ k, (h : k < s.size) → okP k (s[k].toNat : Int)) && decide (1 ≤ s.size ∧ s.size ≤ 32)
theorem givV_no {s : ByteArray} {k : Nat} (h : k < s.size) (hn : ¬ okP k (s[k].toNat : Int)) : givV s = false := by
  unfold givV
  rw [Bool.and_eq_false_iff]; left
  exact decide_eq_false fun hh => hn (hh k h)
theorem givV_all {s : ByteArray} (h : ∀ k, (hk : k < s.size) → okP k (s[k].toNat : Int)) : givV s = decide (1 ≤ s.size ∧ s.size ≤ 32) := by
  unfold givV; rw [decide_eq_true h]; rfl
set_option maxHeartbeats 1000000 in
theorem pvname (s : ByteArray) (w : World) (hs : s.size ≤ maxLen) : Calls Tryd.prog 53 #[.string s] w fun e w' => e = .returned (.bool (givV s)) ∧ w = w' := by
  unfold maxLen at hs
  go_enter Tryd.func53, Tryd.ntmps53
  go_wp2
  go_loop [7] (fun i => ∃ k : Nat, k ≤ s.size ∧ i = .int .i64 k ∧ Hid (∀ j, j < k → (h : j < s.size) → okP j (s[j].toNat : Int))) (fun i => s.size - (intOf i).toNat)
  case atStart => exact ⟨0, by omega, rfl, fun j hj => absurd hj (by omega)⟩
  case round =>
    obtain ⟨k, hk, rfl, hH⟩ := hrel
    by_cases hlt : k < s.size
    · by_cases hok : okP k (s[k].toNat : Int)
      · have hnew : Hid (∀ j, j < k + 1 → (h : j < s.size) → okP j (s[j].toNat : Int)) := fun j hj hj' => by
          by_cases e : j = k
          · subst e; exact hok
          · exact hH.out j (by omega) hj'
        rcases hok with hok | hok | ⟨h0, hok | hok | hok⟩
        · go_wp2
          all_goals
            go_round
            case rel => exact ⟨k + 1, by omega, by go_num, hnew⟩
            case measure => simp [intOf]; omega
        · go_wp2
          all_goals
            go_round
            case rel => exact ⟨k + 1, by omega, by go_num, hnew⟩
            case measure => simp [intOf]; omega
        · go_wp2
          all_goals
            go_round
            case rel => exact ⟨k + 1, by omega, by go_num, hnew⟩
            case measure => simp [intOf]; omega
        · go_wp2
          all_goals
            go_round
            case rel => exact ⟨k + 1, by omega, by go_num, hnew⟩
            case measure => simp [intOf]; omega
        · go_wp2
          all_goals
            go_round
            case rel => exact ⟨k + 1, by omega, by go_num, hnew⟩
            case measure => simp [intOf]; omega
      · have hr : Hid (givV s = false) := givV_no hlt hok
        have hokH : Hid (¬ okP k (s[k].toNat : Int)) := hok
        clear hok
        go_wp2
        all_goals first
          | (go_ret; exact ⟨by rw [hr.out]; rfl, rfl⟩)
          | (exfalso; refine hokH.out ?_; unfold okP; (try simp only [beq_iff_eq, beq_eq_false_iff_ne, ne_eq] at *); omega)
    · have hr : Hid (givV s = decide (1 ≤ s.size ∧ s.size ≤ 32)) := givV_all fun j hj => hH.out j (by omega) hj
      go_wp2
      all_goals
        go_ret
        exact ⟨by rw [hr.out]; exact rb (by first | (rw [decide_eq_decide]; omega) | (symm; simp; omega)), rfl⟩
theorem valV_neg (p : Int) : valV (-p) = valV p := by
  unfold valV
  rw [Int.natAbs_neg]
  congr 1
  simp
theorem pname_3 (w : World) (hk : KindsAt w) : Calls Tryd.prog 33 #[.int .i8 3] w fun e w' => e = .returned (.tuple #[.string ⟨#[98, 105, 115, 104, 111, 112]⟩, .int .i64 0]) ∧ w = w' :=
  pname_yes 3 w hk (by decide) (by decide)
end Go.Proofs.YtbcdimklblpdnaaDoor.PC
