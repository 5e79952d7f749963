/- Layer 1: plain laws of sets: the squares of a set by its bits; shifted sets; sets of a board. No program in sight. -/
import Derived.Test.YtjjchodcoeciaaaDoorQw
namespace Go.Proofs.YtjjchodcoeciaaaDoor
open Go.RowKit
set_option linter.unusedSimpArgs false
set_option linter.unusedVariables false

theorem low_bits {m : Nat} (h0 : m ≠ 0) (h : m < 18446744073709551616) : (∀ i, i < Lib.ctz 64 m → m.testBit i = false) ∧ m.testBit (Lib.ctz 64 m) = true ∧ ∀ i, (m &&& (m - 1)).testBit i = (m.testBit i && decide (i ≠ Lib.ctz 64 m)) := by
  obtain ⟨q, hm, hk⟩ := Lib.ctzFrom_spec 64 m (by omega) h
  have e : Lib.ctz 64 m = Lib.ctzFrom 64 m := by simp [Lib.ctz, h0]
  rw [e]
  generalize Lib.ctzFrom 64 m = c at *
  have hp : 0 < 2 ^ c := Nat.two_pow_pos c
  have hm1 : m - 1 = 2 ^ c * (2 * q) + (2 ^ c - 1) := by rw [hm, Nat.mul_add, Nat.mul_one]; omega
  have t0 : ∀ i, m.testBit i = (decide (c ≤ i) && (2 * q + 1).testBit (i - c)) := fun i => by rw [hm, Nat.testBit_two_pow_mul]
  have t1 : ∀ i, (m - 1).testBit i = if i < c then (2 ^ c - 1).testBit i else (2 * q).testBit (i - c) := fun i => by rw [hm1, Nat.testBit_two_pow_mul_add _ (by omega)]
  refine ⟨fun i hi => ?_, ?_, fun i => ?_⟩
  · rw [t0]; simp; omega
  · rw [t0]; simp
  · rw [Nat.testBit_and, t0, t1]
    rcases Nat.lt_trichotomy i c with hi | hi | hi
    · have : ¬ c ≤ i := by omega
      simp [this]
    · subst hi; simp
    · obtain ⟨d, rfl⟩ : ∃ d, i = c + (d + 1) := ⟨i - c - 1, by omega⟩
      rw [show c + (d + 1) - c = d + 1 by omega, Nat.testBit_succ, Nat.testBit_succ, show (2 * q + 1) / 2 = q by omega, show 2 * q / 2 = q by omega]
      have h1 : ¬ (c + (d + 1) < c) := by omega
      have h2 : c + (d + 1) ≠ c := by omega
      simp [h1, h2]
theorem filter_low {p : Nat → Bool} {c : Nat} (h0 : ∀ i, i < c → p i = false) (h1 : p c = true) : ∀ n, c < n → (List.range n).filter p = c :: (List.range n).filter (fun i => p i && decide (i ≠ c)) := by
  intro n
  induction n with
  | zero => intro h; omega
  | succ n ih =>
    intro h
    rw [List.range_succ, List.filter_append, List.filter_append]
    by_cases hc : c = n
    · subst hc
      have e1 : (List.range c).filter p = [] := by
        rw [List.filter_eq_nil_iff]; intro i hi; rw [h0 i (List.mem_range.1 hi)]; simp
      have e2 : (List.range c).filter (fun i => p i && decide (i ≠ c)) = [] := by
        rw [List.filter_eq_nil_iff]; intro i hi; rw [h0 i (List.mem_range.1 hi)]; simp
      rw [e1, e2]; simp [h1]
    · rw [ih (by omega)]
      have : n ≠ c := fun e => hc e.symm
      rw [List.cons_append]
      congr 2
      simp [List.filter_cons, this]
theorem LI_sqs : ∀ m, m < 18446744073709551616 → LI m 64 = (sqs m).map fun n : Nat => (n : Int) := by
  intro m
  induction m using Nat.strongRecOn with
  | ind m ih =>
    intro hm
    by_cases h0 : m = 0
    · subst h0; rw [sqs_zero]; simp [LI]
    · obtain ⟨b0, b1, b2⟩ := low_bits h0 hm
      have hlt := and_pred_lt h0
      have h2 := ih _ hlt (by omega)
      rw [sqs_pos h0, List.map_cons, ← h2]
      unfold LI
      rw [filter_low b0 b1 64 (ctz_lt h0 hm), List.map_cons]
      congr 2
      exact List.filter_congr fun i _ => (b2 i).symm
/-- the reference's set is the set -/
theorem acc_nl (f r dx dy : Int) : ∀ (l : List Nat) (acc : Nat), l.foldl (stepS f r dx dy) acc = (nl f r dx dy (l.map fun n : Nat => (n : Int))).foldl (fun acc a => acc ||| 1 <<< a.toNat) acc := by
  intro l
  induction l with
  | nil => intro acc; rfl
  | cons a l ih =>
    intro acc
    rw [List.foldl_cons, ih, List.map_cons]
    unfold stepS nl
    rw [List.filterMap_cons]
    split
    · rename_i ho; simp [ho]
    · rename_i ho; simp [ho]
theorem shift_same (f r dx dy : Int) (m : Nat) (hm : m < 18446744073709551616) : ofL (nl f r dx dy (LI m 64)) (nl f r dx dy (LI m 64)).length = accS f r dx dy (sqs m) := by
  unfold ofL accS
  rw [List.take_length, LI_sqs m hm, acc_nl]
theorem nl_far {f r dx dy : Int} (hf : 0 < f) (h : ¬ ((-f < dx ∧ dx < f) ∧ -r < dy ∧ dy < r)) (l : List Int) (hl : ∀ x ∈ l, sqB f r x = true) : nl f r dx dy l = [] := by
  unfold nl
  rw [List.filterMap_eq_nil_iff]
  intro a ha
  obtain ⟨d0, d1, d2, d3, _⟩ := place_bd (hl a ha)
  have : onB f r (a % f + dx) (a / f + dy) = false := decide_eq_false (by omega)
  simp [this]
theorem mask_bit (n i : Nat) (hn : n ≤ 64) : (18446744073709551615 - (2 ^ n - 1)).testBit i = (decide (i < 64) && decide (n ≤ i)) := by
  have hp : 0 < 2 ^ n := Nat.two_pow_pos n
  have h2 : 2 ^ n ≤ 2 ^ 64 := Nat.pow_le_pow_right (by decide) hn
  have e : 18446744073709551615 - (2 ^ n - 1) = 2 ^ 64 - ((2 ^ n - 1) + 1) := by omega
  rw [e, Nat.testBit_two_pow_sub_succ (by omega), Nat.testBit_two_pow_sub_one]
  by_cases h : i < n
  · have : ¬ n ≤ i := by omega
    simp [h, this]
  · have : n ≤ i := by omega
    simp [h, this]
theorem LI_bit {m : Nat} {x : Int} (h : x ∈ LI m 64) : ∃ i : Nat, x = (i : Int) ∧ m.testBit i = true ∧ i < 64 := by
  unfold LI at h
  simp only [List.mem_map, List.mem_filter, List.mem_range] at h
  obtain ⟨n, ⟨hn, hb⟩, rfl⟩ := h
  exact ⟨n, rfl, hb, hn⟩
theorem bit_LI {m i : Nat} (h : m.testBit i = true) (hi : i < 64) : (i : Int) ∈ LI m 64 := by
  unfold LI
  simp only [List.mem_map, List.mem_filter, List.mem_range]
  exact ⟨i, ⟨hi, h⟩, rfl⟩
theorem LI_sorted (m : Nat) : ∀ k, (LI m k).Pairwise (· < ·) := by
  intro k
  unfold LI
  rw [List.pairwise_map]
  exact (List.Pairwise.filter _ List.pairwise_lt_range).imp fun h => by exact_mod_cast h
/-- a set of the board: all squares are the board's -/
theorem hand_iff {f r : Int} (hs : szB f r = true) (m : Nat) (hm : m < 18446744073709551616) : m &&& (18446744073709551615 - allV f r) = 0 ↔ ∀ x ∈ LI m 64, x < f * r := by
  obtain ⟨f0, f1, r0, r1⟩ := szB_out hs
  obtain ⟨m0, m1⟩ := mul_bd f0 f1 r0 r1
  have hb : ∀ i, (18446744073709551615 - allV f r).testBit i = (decide (i < 64) && decide ((f * r).toNat ≤ i)) := fun i => mask_bit _ i (by omega)
  constructor
  · intro h x hx
    obtain ⟨i, rfl, hi, hi2⟩ := LI_bit hx
    have h2 : (m &&& (18446744073709551615 - allV f r)).testBit i = false := by rw [h]; simp
    rw [Nat.testBit_and, hb, hi] at h2
    simp at h2
    have := h2 hi2
    omega
  · intro h
    apply Nat.eq_of_testBit_eq
    intro i
    rw [Nat.testBit_and, hb, Nat.zero_testBit]
    cases hi : m.testBit i
    · simp
    · by_cases h64 : i < 64
      · have := h _ (bit_LI hi h64)
        have h3 : ¬ (f * r).toNat ≤ i := by omega
        simp [h3]
      · simp [h64]
theorem last_all {l : List Int} {x n : Int} (h : (l ++ [x]).Pairwise (· < ·)) : (∀ y ∈ l ++ [x], y < n) ↔ x < n := by
  constructor
  · intro h1; exact h1 x (by simp)
  · intro hx y hy
    rcases List.mem_append.1 hy with hy | hy
    · have := (List.pairwise_append.1 h).2.2 y hy x (by simp); omega
    · have : y = x := by simpa using hy
      omega
end Go.Proofs.YtjjchodcoeciaaaDoor
