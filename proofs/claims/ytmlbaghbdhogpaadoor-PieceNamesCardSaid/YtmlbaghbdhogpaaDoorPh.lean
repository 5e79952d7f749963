/- The reference's Value, the letter of no piece, and the examples of the chapter. -/
import Derived.Test.YtmlbaghbdhogpaaDoorPg
namespace Go.Proofs.YtmlbaghbdhogpaaDoor
open Go.RowKit
set_option linter.unusedSimpArgs false
set_option linter.unusedVariables false

theorem rkindn (p n : Int) (w : World) (h1 : -15 ≤ p) (h2 : p ≤ 15) (hn : (p.natAbs : Int) = n) : Calls Tryd.prog 16 #[.int .i8 p] w fun e w' => e = .returned (.int .i8 n) ∧ w = w' := by
  subst hn; exact rkind p w h1 h2
theorem rvalue_n (p n v : Int) (w : World) (h1 : -15 ≤ p) (h2 : p ≤ 15) (hn : (p.natAbs : Int) = n) (hv : valV p = v) (hl : (n = 0 ∧ v = 0) ∨ (n = 1 ∧ v = 1) ∨ (n = 2 ∧ v = 3) ∨ (n = 3 ∧ v = 3) ∨ (n = 4 ∧ v = 5) ∨ (n = 5 ∧ v = 9)) : Calls Tryd.prog 18 #[.int .i8 p] w fun e w' => e = .returned (.int .i64 (valV p)) ∧ w = w' := by
  rw [hv]
  clear hv
  obtain ⟨rfl, rfl⟩ | ⟨rfl, rfl⟩ | ⟨rfl, rfl⟩ | ⟨rfl, rfl⟩ | ⟨rfl, rfl⟩ | ⟨rfl, rfl⟩ := hl
  all_goals
    have hnH := Lib.hid hn
    clear hn
    go_enter Tryd.func18, Tryd.ntmps18
    go_wp2_with (first | (go_at_call 16; refine (rkindn _ _ _ h1 h2 hnH.out).mono ?_; rintro e w' ⟨rfl, rfl⟩))
    go_ret
    exact ⟨rfl, rfl⟩
theorem rvalue_big (p : Int) (w : World) (h1 : -15 ≤ p) (h2 : p ≤ 15) (hn : 6 ≤ p.natAbs) (hv : valV p = 0) : Calls Tryd.prog 18 #[.int .i8 p] w fun e w' => e = .returned (.int .i64 (valV p)) ∧ w = w' := by
  rw [hv]
  clear hv
  have e1 : ((p.natAbs : Int) == 1) = false := by simp; omega
  have e2 : ((p.natAbs : Int) == 2) = false := by simp; omega
  have e3 : ((p.natAbs : Int) == 3) = false := by simp; omega
  have e4 : ((p.natAbs : Int) == 4) = false := by simp; omega
  have e5 : ((p.natAbs : Int) == 5) = false := by simp; omega
  go_enter Tryd.func18, Tryd.ntmps18
  go_wp2_with (first | (go_at_call 16; refine (rkind _ _ h1 h2).mono ?_; rintro e w' ⟨rfl, rfl⟩))
  go_ret
  exact ⟨rfl, rfl⟩
theorem rvalue (p : Int) (w : World) (h1 : -15 ≤ p) (h2 : p ≤ 15) : Calls Tryd.prog 18 #[.int .i8 p] w fun e w' => e = .returned (.int .i64 (valV p)) ∧ w = w' := by
  have hv : valV p = if p.natAbs = 0 then 0 else valAt (p.natAbs - 1) := by unfold valV; congr 1; simp
  by_cases h : 6 ≤ p.natAbs
  · refine rvalue_big p w h1 h2 h ?_
    rw [hv, if_neg (by omega)]
    obtain e | e | e | e | e | e | e | e | e | e : p.natAbs = 6 ∨ p.natAbs = 7 ∨ p.natAbs = 8 ∨ p.natAbs = 9 ∨ p.natAbs = 10 ∨ p.natAbs = 11 ∨ p.natAbs = 12 ∨ p.natAbs = 13 ∨ p.natAbs = 14 ∨ p.natAbs = 15 := by omega
    all_goals rw [e]; rfl
  · obtain e | e | e | e | e | e : p.natAbs = 0 ∨ p.natAbs = 1 ∨ p.natAbs = 2 ∨ p.natAbs = 3 ∨ p.natAbs = 4 ∨ p.natAbs = 5 := by omega
    all_goals
      rw [e] at hv
      exact rvalue_n p _ _ w h1 h2 rfl hv (by rw [e]; decide)
theorem valV_neg (p : Int) : valV (-p) = valV p := by
  unfold valV
  rw [Int.natAbs_neg]
  congr 1
  simp

theorem pletter_zero (w : World) : Calls Tryd.prog 22 #[.int .i8 0] w fun e w' => e = .returned (.tuple #[.int .u8 0, .int .i64 2]) ∧ w = w' := by
  go_enter Tryd.func22, Tryd.ntmps22
  go_wp2
  go_ret2
  exact ⟨rfl, rfl⟩
theorem pletter_no (p : Int) (w : World) (h : p < -15 ∨ 15 < p) : Calls Tryd.prog 22 #[.int .i8 p] w fun e w' => e = .returned (.tuple #[.int .u8 0, .int .i64 2]) ∧ w = w' := by
  have h0 : (p == 0) = false := by simp; omega
  go_enter Tryd.func22, Tryd.ntmps22
  go_wp2_with (first | (go_at_call 11; refine (pvalid_no _ _ h).mono ?_; rintro e w' ⟨rfl, rfl⟩))
  go_ret2
  exact ⟨rfl, rfl⟩
theorem pfind_j (w : World) (hk : KindsAt w) : Calls Tryd.prog 26 #[.string ⟨#[102, 97, 105, 114, 121, 45, 106]⟩] w fun e w' => e = .returned (.tuple #[.int .i8 15, .int .i64 0]) ∧ w = w' := by
  have h := pfind ⟨#[102, 97, 105, 114, 121, 45, 106]⟩ w hk
  have e : finV (ByteArray.mk #[102, 97, 105, 114, 121, 45, 106]).toList = 15 := by rw [ByteArray.toList_eq]; decide
  rw [e] at h
  exact h
theorem pfind_rook (w : World) (hk : KindsAt w) : Calls Tryd.prog 26 #[.string ⟨#[82, 111, 111, 107]⟩] w fun e w' => e = .returned (.tuple #[.int .i8 0, .int .i64 6]) ∧ w = w' := by
  have h := pfind ⟨#[82, 111, 111, 107]⟩ w hk
  have e : finV (ByteArray.mk #[82, 111, 111, 107]).toList = 0 := by rw [ByteArray.toList_eq]; decide
  rw [e] at h
  exact h
theorem pname_3 (w : World) (hk : KindsAt w) : Calls Tryd.prog 20 #[.int .i8 3] w fun e w' => e = .returned (.tuple #[.string ⟨#[98, 105, 115, 104, 111, 112]⟩, .int .i64 0]) ∧ w = w' :=
  pname_yes 3 w hk (by decide) (by decide)

end Go.Proofs.YtmlbaghbdhogpaaDoor
