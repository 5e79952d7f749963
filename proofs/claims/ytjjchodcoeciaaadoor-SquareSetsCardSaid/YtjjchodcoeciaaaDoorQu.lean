/- Layer 1: the reference's set of some squares; the squares of a set. -/
import Derived.Test.YtjjchodcoeciaaaDoorQt
namespace Go.Proofs.YtjjchodcoeciaaaDoor
open Go.RowKit
set_option linter.unusedSimpArgs false
set_option linter.unusedVariables false

theorem or_bit_yes {acc a : Nat} (h : acc.testBit a = true) : acc ||| 1 <<< a = acc := by
  apply Nat.eq_of_testBit_eq
  intro i
  rw [Nat.one_shiftLeft, Nat.testBit_or, Nat.testBit_two_pow]
  by_cases hi : a = i
  · subst hi; rw [h]; simp
  · simp [hi]
theorem or_bit_no {acc a : Nat} (h : acc.testBit a = false) : acc + 2 ^ a = acc ||| 1 <<< a := by
  rw [Nat.one_shiftLeft]
  have key : ∀ (a acc : Nat), acc.testBit a = false → acc + 2 ^ a = acc ||| 2 ^ a := by
    intro a
    induction a with
    | zero =>
      intro acc h
      rw [Nat.testBit_zero] at h
      have h0 : acc % 2 = 0 := by simpa using h
      apply Nat.eq_of_testBit_eq
      intro i
      cases i with
      | zero => rw [Nat.testBit_zero, Nat.testBit_or, Nat.testBit_zero, Nat.testBit_zero]; simp; omega
      | succ i => rw [Nat.testBit_succ, Nat.testBit_or, Nat.testBit_succ, Nat.testBit_succ, show (acc + 2 ^ 0) / 2 = acc / 2 by simp; omega]; simp
    | succ a ih =>
      intro acc h
      rw [Nat.testBit_succ] at h
      have h2 := ih (acc / 2) h
      have h3 : 2 ^ (a + 1) = 2 * 2 ^ a := by rw [Nat.pow_succ, Nat.mul_comm]
      apply Nat.eq_of_testBit_eq
      intro i
      cases i with
      | zero => rw [Nat.testBit_zero, Nat.testBit_or, Nat.testBit_zero, Nat.testBit_zero, h3]; simp
      | succ i => rw [Nat.testBit_succ, Nat.testBit_or, Nat.testBit_succ, Nat.testBit_succ, h3, show (acc + 2 * 2 ^ a) / 2 = acc / 2 + 2 ^ a by omega, show 2 * 2 ^ a / 2 = 2 ^ a by omega, h2, Nat.testBit_or]
  exact key a acc h
set_option maxHeartbeats 1000000 in
theorem rof (l : List Int) (A : Option Addr) (cap : Nat) (w : World) (hlen : l.length < 1000) (hl : ∀ j, j < l.length → 0 ≤ l.getD j 0 ∧ l.getD j 0 < 64) (hc : RecAt iEnc 1 w w.heap.size A l) :
    Calls Tryd.prog 35 #[.slice A l.length cap] w fun e w' => e = .returned (.int .u64 (ofL l l.length : Nat)) ∧ w = w' := by
  have hltH := Lib.hid (ofL_lt hl)
  have hlH := Lib.hid hl
  have hcH := Lib.hid hc
  clear hc hl
  go_enter Tryd.func35, Tryd.ntmps35
  go_wp2
  go_loop [3, 4] (fun s i => ∃ k : Nat, k ≤ l.length ∧ i = .int .i64 k ∧ s = .int .u64 (ofL l k : Nat)) (fun _ i => l.length - (intOf i).toNat)
  case atStart => exact ⟨0, by omega, rfl, rfl⟩
  case round =>
    obtain ⟨k, hk, rfl, rfl⟩ := hrel
    by_cases hkn : k < l.length
    · obtain ⟨b, off, rfl, hb, hcc⟩ := hcH.out (by omega)
      have hget : l[k]? = some (l.getD k 0) := by rw [List.getD, List.getElem?_eq_getElem hkn]; rfl
      have hcell : w.cell? ⟨b, off + k, none⟩ = some (.int .i64 (l.getD k 0)) := by
        have := hcc k _ hget 0 (.int .i64 (l.getD k 0)) rfl
        simpa using this
      clear hcc
      obtain ⟨a0, a1⟩ := hlH.out k hkn
      have hsu := Lib.hid (ofL_succ hkn)
      have hlt1 := hltH.out k hk
      have hlt2 := hltH.out (k + 1) hkn
      obtain ⟨a, ha⟩ : ∃ a : Nat, l.getD k 0 = (a : Int) := ⟨(l.getD k 0).toNat, by omega⟩
      rw [ha] at hcell a0 a1 hsu
      clear ha hget
      have hh := Lib.hid (rhas (ofL l k) a w (by omega))
      cases hbit : (ofL l k).testBit a
      · have hs2 : Hid (ofL l k + 2 ^ a = ofL l (k + 1)) := by
          have h1 := hsu.out
          unfold Hid
          rw [h1, or_bit_no hbit]; rfl
        have hpw : (2 : Int) ^ a = ((2 ^ a : Nat) : Int) := by simp
        obtain ⟨P, hP⟩ : ∃ P : Nat, 2 ^ a = P := ⟨_, rfl⟩
        rw [hP] at hpw hs2
        have hs3 := hs2.out
        have hw1 : IntKind.u64.wrap (2 ^ (a : Int).toNat) = (P : Int) := by
          rw [Int.toNat_natCast, hpw, IntKind.wrap_u64]; omega
        have hw1' : IntKind.u64.wrap (2 ^ a) = (P : Int) := by
          rw [hpw, IntKind.wrap_u64]; omega
        have hw2 : IntKind.u64.wrap (((ofL l k : Nat) : Int) + (P : Int)) = (ofL l (k + 1) : Nat) := by
          rw [IntKind.wrap_u64]; omega
        clear hpw hs3
        rw [hbit] at hh
        clear hbit
        go_wp2_with (go_at_call 38; refine (hh.out).mono ?_; rintro e w' ⟨rfl, rfl⟩)
        go_round
        case rel => exact ⟨k + 1, by omega, rfl, vi (by first | rfl | rw [hw1', hw2] | rw [hw1, hw2])⟩
        case measure => simp [intOf]; omega
      · have hs2 : Hid (ofL l (k + 1) = ofL l k) := by
          have h1 := hsu.out
          unfold Hid
          rw [h1]; exact or_bit_yes hbit
        rw [hbit] at hh
        clear hbit
        go_wp2_with (go_at_call 38; refine (hh.out).mono ?_; rintro e w' ⟨rfl, rfl⟩)
        go_round
        case rel => exact ⟨k + 1, by omega, rfl, by rw [hs2.out]⟩
        case measure => simp [intOf]; omega
    · obtain rfl : k = l.length := by omega
      go_wp2
      go_ret
      exact ⟨rfl, rfl⟩
end Go.Proofs.YtjjchodcoeciaaaDoor
