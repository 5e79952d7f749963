/- Contracts of functions that another seat has proved already, over this program: XPlain, XPc, XPd, XPe, XPf, XPh. -/
import Derived.WalkKit
import Derived.ProofKit
import Derived.OpenShut
import Derived.Below
import Derived.Lib.Hide
import Derived.WalkSpells
import Derived.WalkLawsBesides
import Derived.Outline
import Derived.Test.YtjglpphfkkabnaaDoorProg
namespace Go.Proofs.YtjglpphfkkabnaaDoor.PC
open Go.RowKit
set_option linter.unusedSimpArgs false
set_option linter.unusedVariables false
theorem ri {k : IntKind} {a b : Int} (h : a = b) : Ending.returned (.int k a) = .returned (.int k b) := by rw [h]
theorem rb {a b : Bool} (h : a = b) : Ending.returned (.bool a) = .returned (.bool b) := by rw [h]
theorem rt2 {a b c d : Value} (h : a = b) (k : c = d) : Ending.returned (.tuple #[a, c]) = .returned (.tuple #[b, d]) := by rw [h, k]
theorem vi {k : IntKind} {a b : Int} (h : a = b) : Value.int k a = .int k b := by rw [h]
/-- the letters of White's kinds, from kind 1 on -/
def lets : List Int := [80, 78, 66, 82, 81, 75, 65, 67, 68, 69, 70, 71, 72, 73, 74]
def vals : List Int := [1, 3, 3, 5, 9, 0, 0, 0, 0, 0, 0, 0, 0, 0, 0]
def nams : List (List UInt8) := [[112, 97, 119, 110], [107, 110, 105, 103, 104, 116], [98, 105, 115, 104, 111, 112], [114, 111, 111, 107], [113, 117, 101, 101, 110], [107, 105, 110, 103], [102, 97, 105, 114, 121, 45, 97], [102, 97, 105, 114, 121, 45, 99], [102, 97, 105, 114, 121, 45, 100], [102, 97, 105, 114, 121, 45, 101], [102, 97, 105, 114, 121, 45, 102], [102, 97, 105, 114, 121, 45, 103], [102, 97, 105, 114, 121, 45, 104], [102, 97, 105, 114, 121, 45, 105], [102, 97, 105, 114, 121, 45, 106]]
/-- the letter, the value, the name of kind k + 1 -/
def letAt (k : Nat) : Int := lets.getD k 0
def valAt (k : Nat) : Int := vals.getD k 0
def namAt (k : Nat) : List UInt8 := nams.getD k []
/-- what the table of kinds holds in memory -/
structure KindsAt (w : World) : Prop where
  letter : ∀ k : Nat, k < 15 → w.cell? ⟨0, k * 3, none⟩ = some (.int .u8 (letAt k))
  value : ∀ k : Nat, k < 15 → w.cell? ⟨0, k * 3 + 1, none⟩ = some (.int .i64 (valAt k))
  name : ∀ k : Nat, k < 15 → w.cell? ⟨0, k * 3 + 2, none⟩ = some (.string ⟨(namAt k).toArray⟩)
  pos : 0 < w.heap.size
theorem KindsAt.below {w w' : World} {B : Nat} (h : KindsAt w) (hB : 0 < B) (hb : Below B w w') : KindsAt w' :=
  ⟨fun k hk => (hb.cell (p := ⟨0, k * 3, none⟩) hB).trans (h.letter k hk), fun k hk => (hb.cell (p := ⟨0, k * 3 + 1, none⟩) hB).trans (h.value k hk),
   fun k hk => (hb.cell (p := ⟨0, k * 3 + 2, none⟩) hB).trans (h.name k hk), Nat.lt_of_lt_of_le h.pos hb.size⟩
theorem letAt_bd (k : Nat) : 0 ≤ letAt k ∧ letAt k ≤ 82 := by
  by_cases h : k < 15
  · revert k; decide
  · have e : letAt k = 0 := by unfold letAt lets; simp [List.getD, h]
    rw [e]; decide
/-- the letters as the reference has them -/
theorem refUp (k : Nat) (h : k < 15) (hs : k < (ByteArray.mk #[80, 78, 66, 82, 81, 75, 65, 67, 68, 69, 70, 71, 72, 73, 74]).size) : (((ByteArray.mk #[80, 78, 66, 82, 81, 75, 65, 67, 68, 69, 70, 71, 72, 73, 74])[k]'hs).toNat : Int) = letAt k := by
  obtain rfl | rfl | rfl | rfl | rfl | rfl | rfl | rfl | rfl | rfl | rfl | rfl | rfl | rfl | rfl : k = 0 ∨ k = 1 ∨ k = 2 ∨ k = 3 ∨ k = 4 ∨ k = 5 ∨ k = 6 ∨ k = 7 ∨ k = 8 ∨ k = 9 ∨ k = 10 ∨ k = 11 ∨ k = 12 ∨ k = 13 ∨ k = 14 := by omega
  all_goals rfl
theorem refLow (k : Nat) (h : k < 15) (hs : k < (ByteArray.mk #[112, 110, 98, 114, 113, 107, 97, 99, 100, 101, 102, 103, 104, 105, 106]).size) : (((ByteArray.mk #[112, 110, 98, 114, 113, 107, 97, 99, 100, 101, 102, 103, 104, 105, 106])[k]'hs).toNat : Int) = letAt k + 32 := by
  obtain rfl | rfl | rfl | rfl | rfl | rfl | rfl | rfl | rfl | rfl | rfl | rfl | rfl | rfl | rfl : k = 0 ∨ k = 1 ∨ k = 2 ∨ k = 3 ∨ k = 4 ∨ k = 5 ∨ k = 6 ∨ k = 7 ∨ k = 8 ∨ k = 9 ∨ k = 10 ∨ k = 11 ∨ k = 12 ∨ k = 13 ∨ k = 14 := by omega
  all_goals rfl
/-- the value of a piece -/
def valV (p : Int) : Int := if p = 0 then 0 else valAt (p.natAbs - 1)
/-- the letter of a piece -/
def letV (p : Int) : Int := if p < 0 then letAt (p.natAbs - 1) + 32 else letAt (p.natAbs - 1)
theorem letV_bd (p : Int) : 0 ≤ letV p ∧ letV p ≤ 114 := by
  have := letAt_bd (p.natAbs - 1)
  unfold letV; split <;> omega
/-- the piece with a letter -/
def parV (c : Int) : Int := ((List.range 15).findSome? fun k => if letAt k = c then some ((k : Int) + 1) else if letAt k + 32 = c then some (-(k : Int) - 1) else none).getD 0
/-- the error of reading a letter, of finding a name -/
def noE (v : Int) : Int := if v = 0 then 6 else 0
theorem noE_zero : noE 0 = 6 := rfl
theorem noE_pos {v : Int} (h : v ≠ 0) : noE v = 0 := if_neg h
theorem parV_up (k : Nat) (h : k < 15) : parV (letAt k) = k + 1 := by revert k; decide
theorem parV_low (k : Nat) (h : k < 15) : parV (letAt k + 32) = -k - 1 := by revert k; decide
theorem parV_none (c : Int) (h : ∀ k, k < 15 → letAt k ≠ c ∧ letAt k + 32 ≠ c) : parV c = 0 := by
  unfold parV
  rw [List.findSome?_eq_none_iff.2]
  · rfl
  · intro k hk
    have := h k (by simpa using hk)
    rw [if_neg this.1, if_neg this.2]
theorem parV_let (p : Int) (h1 : -15 ≤ p) (h2 : p ≤ 15) (h0 : p ≠ 0) : parV (letV p) = p := by
  unfold letV
  split
  · rw [parV_low _ (by omega)]; omega
  · rw [parV_up _ (by omega)]; omega
theorem parV_no (c : Int) (h : ∀ q : Int, -15 ≤ q → q < 16 → q ≠ 0 → letV q ≠ c) : parV c = 0 := by
  refine parV_none c fun k hk => ⟨?_, ?_⟩
  · have := h ((k : Int) + 1) (by omega) (by omega) (by omega)
    unfold letV at this
    rw [if_neg (by omega), show ((k : Int) + 1).natAbs - 1 = k by omega] at this
    exact this
  · have := h (-(k : Int) - 1) (by omega) (by omega) (by omega)
    unfold letV at this
    rw [if_pos (by omega), show (-(k : Int) - 1).natAbs - 1 = k by omega] at this
    exact this
/-- the kind with a name -/
def finV (s : List UInt8) : Int := ((List.range 15).findSome? fun k => if namAt k = s then some ((k : Int) + 1) else none).getD 0
theorem finV_at (k : Nat) (h : k < 15) : finV (namAt k) = k + 1 := by revert k; decide
theorem finV_none (s : List UInt8) (h : ∀ k, k < 15 → namAt k ≠ s) : finV s = 0 := by
  unfold finV
  rw [List.findSome?_eq_none_iff.2]
  · rfl
  · intro k hk
    have := h k (by simpa using hk)
    rw [if_neg this]
theorem finV_bd (s : List UInt8) : 0 ≤ finV s ∧ finV s ≤ 15 := by
  by_cases h : ∀ k, k < 15 → namAt k ≠ s
  · rw [finV_none s h]; decide
  · obtain ⟨k, hk⟩ := Classical.not_forall.1 h
    have h1 : k < 15 := by apply Classical.byContradiction; intro hn; exact hk (fun h => absurd h hn)
    have h2 : namAt k = s := by apply Classical.byContradiction; intro hn; exact hk (fun _ => hn)
    subst h2; rw [finV_at k h1]; omega
set_option linter.unusedVariables false

theorem pvalid_yes (p : Int) (w : World) (h1 : -15 ≤ p) (h2 : p ≤ 15) : Calls Tryd.prog 38 #[.int .i8 p] w fun e w' => e = .returned (.bool true) ∧ w = w' := by
  go_enter Tryd.func38, Tryd.ntmps38
  go_wp2
  go_ret
  exact ⟨rfl, rfl⟩
theorem pvalid_no (p : Int) (w : World) (h : p < -15 ∨ 15 < p) : Calls Tryd.prog 38 #[.int .i8 p] w fun e w' => e = .returned (.bool false) ∧ w = w' := by
  rcases h with h | h
  · go_enter Tryd.func38, Tryd.ntmps38
    go_wp2
    go_ret
    exact ⟨rfl, rfl⟩
  · have h' : -15 ≤ p := by omega
    go_enter Tryd.func38, Tryd.ntmps38
    go_wp2
    go_ret
    exact ⟨rb (by simp; omega), rfl⟩
theorem rvalid_yes (p : Int) (w : World) (h1 : -15 ≤ p) (h2 : p ≤ 15) : Calls Tryd.prog 19 #[.int .i8 p] w fun e w' => e = .returned (.bool true) ∧ w = w' := by
  go_enter Tryd.func19, Tryd.ntmps19
  go_wp2
  go_ret
  exact ⟨rfl, rfl⟩
theorem rvalid_no (p : Int) (w : World) (h : p < -15 ∨ 15 < p) : Calls Tryd.prog 19 #[.int .i8 p] w fun e w' => e = .returned (.bool false) ∧ w = w' := by
  rcases h with h | h
  · go_enter Tryd.func19, Tryd.ntmps19
    go_wp2
    go_ret
    exact ⟨rfl, rfl⟩
  · have h' : -15 ≤ p := by omega
    go_enter Tryd.func19, Tryd.ntmps19
    go_wp2
    go_ret
    exact ⟨rb (by simp; omega), rfl⟩
/-- whether a piece is orthodox -/
def orthoB (p : Int) : Bool := decide (p ≠ 0 ∧ -6 ≤ p ∧ p ≤ 6)
theorem pabs (p : Int) (w : World) (h1 : -15 ≤ p) (h2 : p ≤ 15) : Calls Tryd.prog 60 #[.int .i8 p] w fun e w' => e = .returned (.int .i8 (p.natAbs : Int)) ∧ w = w' := by
  go_enter Tryd.func60, Tryd.ntmps60
  go_wp2
  all_goals
    go_ret
    exact ⟨ri (by omega), rfl⟩
theorem rkind (p : Int) (w : World) (h1 : -15 ≤ p) (h2 : p ≤ 15) : Calls Tryd.prog 61 #[.int .i8 p] w fun e w' => e = .returned (.int .i8 (p.natAbs : Int)) ∧ w = w' := by
  go_enter Tryd.func61, Tryd.ntmps61
  go_wp2
  all_goals
    go_ret
    exact ⟨ri (by omega), rfl⟩
theorem rside (p : Int) (w : World) : Calls Tryd.prog 45 #[.int .i8 p] w fun e w' => e = .returned (.int .i64 p.sign) ∧ w = w' := by
  rcases Int.lt_trichotomy p 0 with h | h | h
  · have hs := Int.sign_eq_neg_one_of_neg h
    go_enter Tryd.func45, Tryd.ntmps45
    go_wp2
    go_ret
    exact ⟨by rw [hs]; rfl, rfl⟩
  · subst h
    go_enter Tryd.func45, Tryd.ntmps45
    go_wp2
    go_ret
    exact ⟨rfl, rfl⟩
  · have hs := Int.sign_eq_one_of_pos h
    go_enter Tryd.func45, Tryd.ntmps45
    go_wp2
    go_ret
    exact ⟨by rw [hs]; rfl, rfl⟩
theorem pvalue_yes (p : Int) (w : World) (hk : KindsAt w) (h1 : -15 ≤ p) (h2 : p ≤ 15) : Calls Tryd.prog 43 #[.int .i8 p] w fun e w' => e = .returned (.tuple #[.int .i64 (valV p), .int .i64 0]) ∧ w = w' := by
  by_cases h0 : p = 0
  · subst h0
    go_enter Tryd.func43, Tryd.ntmps43
    go_wp2_with (first | (go_at_call 38; refine (pvalid_yes _ _ h1 h2).mono ?_; rintro e w' ⟨rfl, rfl⟩))
    go_ret2
    exact ⟨rfl, rfl⟩
  · have h0' : (p == 0) = false := by simpa using h0
    have hc := hk.value (p.natAbs - 1) (by omega)
    have hv : Hid (valV p = valAt (p.natAbs - 1)) := by unfold Hid valV; rw [if_neg h0]
    clear hk
    go_enter Tryd.func43, Tryd.ntmps43
    go_wp2_with (first | (go_at_call 38; refine (pvalid_yes _ _ h1 h2).mono ?_; rintro e w' ⟨rfl, rfl⟩) | (go_at_call 60; refine (pabs _ _ h1 h2).mono ?_; rintro e w' ⟨rfl, rfl⟩))
    go_ret2
    exact ⟨by rw [hv.out]; rfl, rfl⟩
theorem pvalue_no (p : Int) (w : World) (h : p < -15 ∨ 15 < p) : Calls Tryd.prog 43 #[.int .i8 p] w fun e w' => e = .returned (.tuple #[.int .i64 0, .int .i64 2]) ∧ w = w' := by
  go_enter Tryd.func43, Tryd.ntmps43
  go_wp2_with (first | (go_at_call 38; refine (pvalid_no _ _ h).mono ?_; rintro e w' ⟨rfl, rfl⟩))
  go_ret2
  exact ⟨rfl, rfl⟩
theorem pletter_pos (p : Int) (w : World) (hk : KindsAt w) (h1 : 1 ≤ p) (h2 : p ≤ 15) : Calls Tryd.prog 63 #[.int .i8 p] w fun e w' => e = .returned (.tuple #[.int .u8 (letV p), .int .i64 0]) ∧ w = w' := by
  have h0' : (p == 0) = false := by simp; omega
  have hc := hk.letter (p.toNat - 1) (by omega)
  have hv : Hid (letV p = letAt (p.toNat - 1)) := by unfold Hid letV; rw [if_neg (by omega)]; congr 1; omega
  clear hk
  go_enter Tryd.func63, Tryd.ntmps63
  go_wp2_with (first | (go_at_call 38; refine (pvalid_yes _ _ (by omega) h2).mono ?_; rintro e w' ⟨rfl, rfl⟩))
  go_ret2
  exact ⟨by rw [hv.out]; rfl, rfl⟩
theorem pletter_neg (p : Int) (w : World) (hk : KindsAt w) (h1 : -15 ≤ p) (h2 : p < 0) : Calls Tryd.prog 63 #[.int .i8 p] w fun e w' => e = .returned (.tuple #[.int .u8 (letV p), .int .i64 0]) ∧ w = w' := by
  have h0' : (p == 0) = false := by simp; omega
  have hc := hk.letter ((-p).toNat - 1) (by omega)
  have hb := letAt_bd ((-p).toNat - 1)
  have hv : Hid (letV p = letAt ((-p).toNat - 1) + 32) := by unfold Hid letV; rw [if_pos (by omega)]; congr 2; omega
  clear hk
  go_enter Tryd.func63, Tryd.ntmps63
  go_wp2_with (first | (go_at_call 38; refine (pvalid_yes _ _ (by omega) (by omega)).mono ?_; rintro e w' ⟨rfl, rfl⟩))
  go_ret2
  exact ⟨by rw [hv.out]; rfl, rfl⟩
theorem rletter_pos (p : Int) (w : World) (h1 : 1 ≤ p) (h2 : p ≤ 15) : Calls Tryd.prog 51 #[.int .i8 p] w fun e w' => e = .returned (.int .u8 (letV p)) ∧ w = w' := by
  have hv : Hid (letV p = letAt (p.toNat - 1)) := by unfold Hid letV; rw [if_neg (by omega)]; congr 1; omega
  go_enter Tryd.func51, Tryd.ntmps51
  go_wp2
  go_ret
  exact ⟨by rw [hv.out, ← refUp (p.toNat - 1) (by omega) (by simp [ByteArray.size]; omega)]; rfl, rfl⟩
theorem rletter_neg (p : Int) (w : World) (h1 : -15 ≤ p) (h2 : p < 0) : Calls Tryd.prog 51 #[.int .i8 p] w fun e w' => e = .returned (.int .u8 (letV p)) ∧ w = w' := by
  have hv : Hid (letV p = letAt ((-p).toNat - 1) + 32) := by unfold Hid letV; rw [if_pos (by omega)]; congr 2; omega
  go_enter Tryd.func51, Tryd.ntmps51
  go_wp2
  go_ret
  exact ⟨by rw [hv.out, ← refLow ((-p).toNat - 1) (by omega) (by simp [ByteArray.size]; omega)]; rfl, rfl⟩
theorem rletter (p : Int) (w : World) (h1 : -15 ≤ p) (h2 : p ≤ 15) (h0 : p ≠ 0) : Calls Tryd.prog 51 #[.int .i8 p] w fun e w' => e = .returned (.int .u8 (letV p)) ∧ w = w' := by
  by_cases h : p < 0
  · exact rletter_neg p w h1 h
  · exact rletter_pos p w (by omega) h2
set_option maxHeartbeats 400000 in
theorem pparse (c : Int) (w : World) (hk : KindsAt w) (h1 : 0 ≤ c) (h2 : c ≤ 255) : Calls Tryd.prog 53 #[.int .u8 c] w fun e w' => e = .returned (.tuple #[.int .i8 (parV c), .int .i64 (noE (parV c))]) ∧ w = w' := by
  have hkH := Lib.hid hk
  clear hk
  go_enter Tryd.func53, Tryd.ntmps53
  go_wp2
  go_loop [5] (fun i => ∃ k : Nat, k ≤ 15 ∧ i = .int .i8 k ∧ Hid (∀ j, j < k → letAt j ≠ c ∧ letAt j + 32 ≠ c)) (fun i => 15 - (intOf i).toNat)
  case atStart => exact ⟨0, by omega, rfl, fun j hj => absurd hj (by omega)⟩
  case round =>
    obtain ⟨k, hk15, rfl, hH⟩ := hrel
    by_cases hlt : k < 15
    · have hc := hkH.out.letter k hlt
      have hb := letAt_bd k
      by_cases ha : letAt k = c
      · have hp := parV_up k hlt
        rw [ha] at hp
        have hpH := Lib.hid hp
        have hab : (c == letAt k) = true := by simp [ha]
        clear hp ha
        go_wp2
        go_ret2
        exact ⟨by rw [hpH.out, noE_pos (by omega)]; rfl, rfl⟩
      · by_cases hb2 : letAt k + 32 = c
        · have hp := parV_low k hlt
          rw [hb2] at hp
          have hpH := Lib.hid hp
          have hab : (c == letAt k) = false := by simp; omega
          have hab2 : (c == letAt k + 32) = true := by simp [hb2]
          clear hp ha hb2
          go_wp2
          go_ret2
          exact ⟨by rw [hpH.out, noE_pos (by omega)]; rfl, rfl⟩
        · have hab : (c == letAt k) = false := by simp; omega
          have hab2 : (c == letAt k + 32) = false := by simp; omega
          have hnew : Hid (∀ j, j < k + 1 → letAt j ≠ c ∧ letAt j + 32 ≠ c) := fun j hj => by
            by_cases e : j = k
            · subst e; exact ⟨ha, hb2⟩
            · exact hH.out j (by omega)
          clear ha hb2
          go_wp2
          go_round
          case rel => exact ⟨k + 1, by omega, by go_num, hnew⟩
          case measure => simp [intOf]; omega
    · have hp : Hid (parV c = 0) := parV_none c (fun j hj => hH.out j (by omega))
      go_wp2
      go_ret2
      exact ⟨by rw [hp.out]; rfl, rfl⟩
/-- a string of one byte that was just laid -/
theorem conv1 (w : World) (b : UInt8) (n : Int) (hn : n = (b.toNat : Int)) : (convert 80 9 (.slice (some ⟨w.heap.size, 0, none⟩) 1 1)).run Tryd.prog (w.alloc (.cells #[.int .u8 n] 5)) = .ok (.string ⟨#[b]⟩) (w.alloc (.cells #[.int .u8 n] 5)) := by
  subst hn
  refine run_convert_bytes_back (P := Tryd.prog) (w.alloc (.cells #[.int .u8 (b.toNat : Int)] 5)) 80 9 5 ⟨w.heap.size, 0, none⟩ 1 [b] Tryd.underlying80 Tryd.underlying5 Tryd.underlying9 ?_
  intro j hj
  obtain rfl : j = 0 := by simp at hj; omega
  simp [Addr.add]
set_option maxHeartbeats 400000 in
theorem rparse (c : Int) (w : World) (h1 : 0 ≤ c) (h2 : c ≤ 255) : Calls Tryd.prog 54 #[.int .u8 c] w fun e w' => e = .returned (.int .i8 (parV c)) ∧ w = w' := by
  go_enter Tryd.func54, Tryd.ntmps54
  go_wp2
  go_loop [3] (fun i => ∃ p : Int, -15 ≤ p ∧ p ≤ 16 ∧ i = .int .i8 p ∧ Hid (∀ q : Int, -15 ≤ q → q < p → q ≠ 0 → letV q ≠ c)) (fun i => (16 - intOf i).toNat)
  case atStart => exact ⟨-15, by omega, by omega, rfl, fun q hq hq' => absurd hq' (by omega)⟩
  case round =>
    obtain ⟨p, hp1, hp2, rfl, hH⟩ := hrel
    by_cases hlt : p ≤ 15
    · by_cases h0 : p = 0
      · subst h0
        have hnew : Hid (∀ q : Int, -15 ≤ q → q < 1 → q ≠ 0 → letV q ≠ c) := fun q hq hq' hq0 => hH.out q hq (by omega) hq0
        go_wp2
        go_round
        case rel => exact ⟨1, by omega, by omega, rfl, hnew⟩
        case measure => simp [intOf]
      · have h0b : (p != 0) = true := by simpa using h0
        have h0H := Lib.hid h0
        clear h0
        by_cases hc : letV p = c
        · have hb : (letV p == c) = true := by simpa using hc
          have hr : Hid (parV c = p) := by rw [← hc]; exact parV_let p hp1 hlt h0H.out
          clear hc
          go_wp2_with (first | (go_at_call 51; refine (rletter _ _ hp1 hlt h0H.out).mono ?_; rintro e w' ⟨rfl, rfl⟩))
          go_ret
          exact ⟨by rw [hr.out]; rfl, rfl⟩
        · have hb : (letV p == c) = false := by simpa using hc
          have hnew : Hid (∀ q : Int, -15 ≤ q → q < p + 1 → q ≠ 0 → letV q ≠ c) := fun q hq hq' hq0 => by
            by_cases e : q = p
            · subst e; exact hc
            · exact hH.out q hq (by omega) hq0
          clear hc
          go_wp2_with (first | (go_at_call 51; refine (rletter _ _ hp1 hlt h0H.out).mono ?_; rintro e w' ⟨rfl, rfl⟩))
          go_round
          case rel => exact ⟨p + 1, by omega, by omega, rfl, hnew⟩
          case measure => simp [intOf]; omega
    · have hr : Hid (parV c = 0) := parV_no c fun q hq hq' hq0 => hH.out q hq (by omega) hq0
      go_wp2
      go_ret
      exact ⟨by rw [hr.out]; rfl, rfl⟩
theorem rkindn (p n : Int) (w : World) (h1 : -15 ≤ p) (h2 : p ≤ 15) (hn : (p.natAbs : Int) = n) : Calls Tryd.prog 61 #[.int .i8 p] w fun e w' => e = .returned (.int .i8 n) ∧ w = w' := by
  subst hn; exact rkind p w h1 h2
theorem rvalue_n (p n v : Int) (w : World) (h1 : -15 ≤ p) (h2 : p ≤ 15) (hn : (p.natAbs : Int) = n) (hv : valV p = v) (hl : (n = 0 ∧ v = 0) ∨ (n = 1 ∧ v = 1) ∨ (n = 2 ∧ v = 3) ∨ (n = 3 ∧ v = 3) ∨ (n = 4 ∧ v = 5) ∨ (n = 5 ∧ v = 9)) : Calls Tryd.prog 46 #[.int .i8 p] w fun e w' => e = .returned (.int .i64 (valV p)) ∧ w = w' := by
  rw [hv]
  clear hv
  obtain ⟨rfl, rfl⟩ | ⟨rfl, rfl⟩ | ⟨rfl, rfl⟩ | ⟨rfl, rfl⟩ | ⟨rfl, rfl⟩ | ⟨rfl, rfl⟩ := hl
  all_goals
    have hnH := Lib.hid hn
    clear hn
    go_enter Tryd.func46, Tryd.ntmps46
    go_wp2_with (first | (go_at_call 61; refine (rkindn _ _ _ h1 h2 hnH.out).mono ?_; rintro e w' ⟨rfl, rfl⟩))
    go_ret
    exact ⟨rfl, rfl⟩
theorem rvalue_big (p : Int) (w : World) (h1 : -15 ≤ p) (h2 : p ≤ 15) (hn : 6 ≤ p.natAbs) (hv : valV p = 0) : Calls Tryd.prog 46 #[.int .i8 p] w fun e w' => e = .returned (.int .i64 (valV p)) ∧ w = w' := by
  rw [hv]
  clear hv
  have e1 : ((p.natAbs : Int) == 1) = false := by simp; omega
  have e2 : ((p.natAbs : Int) == 2) = false := by simp; omega
  have e3 : ((p.natAbs : Int) == 3) = false := by simp; omega
  have e4 : ((p.natAbs : Int) == 4) = false := by simp; omega
  have e5 : ((p.natAbs : Int) == 5) = false := by simp; omega
  go_enter Tryd.func46, Tryd.ntmps46
  go_wp2_with (first | (go_at_call 61; refine (rkind _ _ h1 h2).mono ?_; rintro e w' ⟨rfl, rfl⟩))
  go_ret
  exact ⟨rfl, rfl⟩
theorem rvalue (p : Int) (w : World) (h1 : -15 ≤ p) (h2 : p ≤ 15) : Calls Tryd.prog 46 #[.int .i8 p] w fun e w' => e = .returned (.int .i64 (valV p)) ∧ w = w' := by
  have hv : valV p = if p.natAbs = 0 then 0 else valAt (p.natAbs - 1) := by unfold valV; congr 1; simp
  by_cases h : 6 ≤ p.natAbs
  · refine rvalue_big p w h1 h2 h ?_
    rw [hv, if_neg (by omega)]
    obtain e | e | e | e | e | e | e | e | e | e : p.natAbs = 6 ∨ p.natAbs = 7 ∨ p.natAbs = 8 ∨ p.natAbs = 9 ∨ p.natAbs = 10 ∨ p.natAbs = 11 ∨ p.natAbs = 12 ∨ p.natAbs = 13 ∨ p.natAbs = 14 ∨ p.natAbs = 15 := by omega
    all_goals rw [e]; rfl
  · obtain e | e | e | e | e | e : p.natAbs = 0 ∨ p.natAbs = 1 ∨ p.natAbs = 2 ∨ p.natAbs = 3 ∨ p.natAbs = 4 ∨ p.natAbs = 5 := by omega
    all_goals
      rw [e] at hv
      exact rvalue_n p _ _ w h1 h2 rfl hv (by rw [e]; decide)
theorem valV_neg (p : Int) : valV (-p) = valV p := by
  unfold valV
  rw [Int.natAbs_neg]
  congr 1
  simp
theorem pletter_zero (w : World) : Calls Tryd.prog 63 #[.int .i8 0] w fun e w' => e = .returned (.tuple #[.int .u8 0, .int .i64 2]) ∧ w = w' := by
  go_enter Tryd.func63, Tryd.ntmps63
  go_wp2
  go_ret2
  exact ⟨rfl, rfl⟩
theorem pletter_no (p : Int) (w : World) (h : p < -15 ∨ 15 < p) : Calls Tryd.prog 63 #[.int .i8 p] w fun e w' => e = .returned (.tuple #[.int .u8 0, .int .i64 2]) ∧ w = w' := by
  have h0 : (p == 0) = false := by simp; omega
  go_enter Tryd.func63, Tryd.ntmps63
  go_wp2_with (first | (go_at_call 38; refine (pvalid_no _ _ h).mono ?_; rintro e w' ⟨rfl, rfl⟩))
  go_ret2
  exact ⟨rfl, rfl⟩
end Go.Proofs.YtjglpphfkkabnaaDoor.PC
