/- Contracts of functions that another seat has proved already, over this program: XPlain. -/
import Derived.WalkKit
import Derived.ProofKit
import Derived.OpenShut
import Derived.Below
import Derived.Test.YteaclphankckiaaProg
namespace Go.Proofs.Yteaclphankckiaa.PC
open Go.RowKit
set_option linter.unusedSimpArgs false
set_option linter.unusedVariables false
theorem ri {k : IntKind} {a b : Int} (h : a = b) : Ending.returned (.int k a) = .returned (.int k b) := by rw [h]
theorem rb {a b : Bool} (h : a = b) : Ending.returned (.bool a) = .returned (.bool b) := by rw [h]
theorem rt2 {a b c d : Value} (h : a = b) (k : c = d) : Ending.returned (.tuple #[a, c]) = .returned (.tuple #[b, d]) := by rw [h, k]
theorem vi {k : IntKind} {a b : Int} (h : a = b) : Value.int k a = .int k b := by rw [h]
/-- the letters of White's kinds, from kind 1 on -/
def lets : List Int := [80, 78, 66, 82, 81, 75, 65, 67, 68, 69, 70, 71, 72, 73, 74]
def vals : List Int := [1, 3, 3, 5, 9, 0, 0, 0, 0, 0, 0, 0, 0, 0, 0]
def nams : List (List UInt8) := [[112, 97, 119, 110], [107, 110, 105, 103, 104, 116], [98, 105, 115, 104, 111, 112], [114, 111, 111, 107], [113, 117, 101, 101, 110], [107, 105, 110, 103], [102, 97, 105, 114, 121, 45, 97], [102, 97, 105, 114, 121, 45, 99], [102, 97, 105, 114, 121, 45, 100], [102, 97, 105, 114, 121, 45, 101], [102, 97, 105, 114, 121, 45, 102], [102, 97, 105, 114, 121, 45, 103], [102, 97, 105, 114, 121, 45, 104], [102, 97, 105, 114, 121, 45, 105], [102, 97, 105, 114, 121, 45, 106]]
/-- the letter, the value, the name of kind k + 1 -/
def letAt (k : Nat) : Int := lets.getD k 0
def valAt (k : Nat) : Int := vals.getD k 0
def namAt (k : Nat) : List UInt8 := nams.getD k []
/-- what the table of kinds holds in memory -/
structure KindsAt (w : World) : Prop where
  letter : ∀ k : Nat, k < 15 → w.cell? ⟨0, k * 3, none⟩ = some (.int .u8 (letAt k))
  value : ∀ k : Nat, k < 15 → w.cell? ⟨0, k * 3 + 1, none⟩ = some (.int .i64 (valAt k))
  name : ∀ k : Nat, k < 15 → w.cell? ⟨0, k * 3 + 2, none⟩ = some (.string ⟨(namAt k).toArray⟩)
  pos : 0 < w.heap.size
theorem KindsAt.below {w w' : World} {B : Nat} (h : KindsAt w) (hB : 0 < B) (hb : Below B w w') : KindsAt w' :=
  ⟨fun k hk => (hb.cell (p := ⟨0, k * 3, none⟩) hB).trans (h.letter k hk), fun k hk => (hb.cell (p := ⟨0, k * 3 + 1, none⟩) hB).trans (h.value k hk),
   fun k hk => (hb.cell (p := ⟨0, k * 3 + 2, none⟩) hB).trans (h.name k hk), Nat.lt_of_lt_of_le h.pos hb.size⟩
theorem letAt_bd (k : Nat) : 0 ≤ letAt k ∧ letAt k ≤ 82 := by
  by_cases h : k < 15
  · revert k; decide
  · have e : letAt k = 0 := by unfold letAt lets; simp [List.getD, h]
    rw [e]; decide
/-- the letters as the reference has them -/
theorem refUp (k : Nat) (h : k < 15) (hs : k < (ByteArray.mk #[80, 78, 66, 82, 81, 75, 65, 67, 68, 69, 70, 71, 72, 73, 74]).size) : (((ByteArray.mk #[80, 78, 66, 82, 81, 75, 65, 67, 68, 69, 70, 71, 72, 73, 74])[k]'hs).toNat : Int) = letAt k := by
  obtain rfl | rfl | rfl | rfl | rfl | rfl | rfl | rfl | rfl | rfl | rfl | rfl | rfl | rfl | rfl : k = 0 ∨ k = 1 ∨ k = 2 ∨ k = 3 ∨ k = 4 ∨ k = 5 ∨ k = 6 ∨ k = 7 ∨ k = 8 ∨ k = 9 ∨ k = 10 ∨ k = 11 ∨ k = 12 ∨ k = 13 ∨ k = 14 := by omega
  all_goals rfl
theorem refLow (k : Nat) (h : k < 15) (hs : k < (ByteArray.mk #[112, 110, 98, 114, 113, 107, 97, 99, 100, 101, 102, 103, 104, 105, 106]).size) : (((ByteArray.mk #[112, 110, 98, 114, 113, 107, 97, 99, 100, 101, 102, 103, 104, 105, 106])[k]'hs).toNat : Int) = letAt k + 32 := by
  obtain rfl | rfl | rfl | rfl | rfl | rfl | rfl | rfl | rfl | rfl | rfl | rfl | rfl | rfl | rfl : k = 0 ∨ k = 1 ∨ k = 2 ∨ k = 3 ∨ k = 4 ∨ k = 5 ∨ k = 6 ∨ k = 7 ∨ k = 8 ∨ k = 9 ∨ k = 10 ∨ k = 11 ∨ k = 12 ∨ k = 13 ∨ k = 14 := by omega
  all_goals rfl
/-- the value of a piece -/
def valV (p : Int) : Int := if p = 0 then 0 else valAt (p.natAbs - 1)
/-- the letter of a piece -/
def letV (p : Int) : Int := if p < 0 then letAt (p.natAbs - 1) + 32 else letAt (p.natAbs - 1)
theorem letV_bd (p : Int) : 0 ≤ letV p ∧ letV p ≤ 114 := by
  have := letAt_bd (p.natAbs - 1)
  unfold letV; split <;> omega
/-- the piece with a letter -/
def parV (c : Int) : Int := ((List.range 15).findSome? fun k => if letAt k = c then some ((k : Int) + 1) else if letAt k + 32 = c then some (-(k : Int) - 1) else none).getD 0
/-- the error of reading a letter, of finding a name -/
def noE (v : Int) : Int := if v = 0 then 6 else 0
theorem noE_zero : noE 0 = 6 := rfl
theorem noE_pos {v : Int} (h : v ≠ 0) : noE v = 0 := if_neg h
theorem parV_up (k : Nat) (h : k < 15) : parV (letAt k) = k + 1 := by revert k; decide
theorem parV_low (k : Nat) (h : k < 15) : parV (letAt k + 32) = -k - 1 := by revert k; decide
theorem parV_none (c : Int) (h : ∀ k, k < 15 → letAt k ≠ c ∧ letAt k + 32 ≠ c) : parV c = 0 := by
  unfold parV
  rw [List.findSome?_eq_none_iff.2]
  · rfl
  · intro k hk
    have := h k (by simpa using hk)
    rw [if_neg this.1, if_neg this.2]
theorem parV_let (p : Int) (h1 : -15 ≤ p) (h2 : p ≤ 15) (h0 : p ≠ 0) : parV (letV p) = p := by
  unfold letV
  split
  · rw [parV_low _ (by omega)]; omega
  · rw [parV_up _ (by omega)]; omega
theorem parV_no (c : Int) (h : ∀ q : Int, -15 ≤ q → q < 16 → q ≠ 0 → letV q ≠ c) : parV c = 0 := by
  refine parV_none c fun k hk => ⟨?_, ?_⟩
  · have := h ((k : Int) + 1) (by omega) (by omega) (by omega)
    unfold letV at this
    rw [if_neg (by omega), show ((k : Int) + 1).natAbs - 1 = k by omega] at this
    exact this
  · have := h (-(k : Int) - 1) (by omega) (by omega) (by omega)
    unfold letV at this
    rw [if_pos (by omega), show (-(k : Int) - 1).natAbs - 1 = k by omega] at this
    exact this
/-- the kind with a name -/
def finV (s : List UInt8) : Int := ((List.range 15).findSome? fun k => if namAt k = s then some ((k : Int) + 1) else none).getD 0
theorem finV_at (k : Nat) (h : k < 15) : finV (namAt k) = k + 1 := by revert k; decide
theorem finV_none (s : List UInt8) (h : ∀ k, k < 15 → namAt k ≠ s) : finV s = 0 := by
  unfold finV
  rw [List.findSome?_eq_none_iff.2]
  · rfl
  · intro k hk
    have := h k (by simpa using hk)
    rw [if_neg this]
theorem finV_bd (s : List UInt8) : 0 ≤ finV s ∧ finV s ≤ 15 := by
  by_cases h : ∀ k, k < 15 → namAt k ≠ s
  · rw [finV_none s h]; decide
  · obtain ⟨k, hk⟩ := Classical.not_forall.1 h
    have h1 : k < 15 := by apply Classical.byContradiction; intro hn; exact hk (fun h => absurd h hn)
    have h2 : namAt k = s := by apply Classical.byContradiction; intro hn; exact hk (fun _ => hn)
    subst h2; rw [finV_at k h1]; omega
end Go.Proofs.Yteaclphankckiaa.PC
