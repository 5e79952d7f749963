/- Layer 3: the sets of a board with a piece put: plain laws. -/
import Derived.Test.YtjglpphfkkabnaaDoorBb
namespace Go.Proofs.YtjglpphfkkabnaaDoor
open Go.RowKit
set_option linter.unusedSimpArgs false
set_option linter.unusedVariables false

theorem wM_bit (P : Int → Bool) (l : List Int) : ∀ k i, (wM P l k).testBit i = (decide (i < k) && P (l.getD i 0)) := by
  intro k
  induction k with
  | zero => intro i; simp [wM]
  | succ k ih =>
    intro i
    unfold wM
    by_cases hi : i = k
    · subst hi
      split
      · rename_i h
        rw [Nat.testBit_or, ih, Nat.testBit_two_pow, h]; simp
      · rename_i h
        rw [ih]
        have h2 : P (l.getD i 0) = false := by simpa using h
        rw [h2]; simp
    · have hd : decide (i < k + 1) = decide (i < k) := by
        rw [decide_eq_decide]; omega
      split
      · rw [Nat.testBit_or, ih, Nat.testBit_two_pow, hd, decide_eq_false (show ¬ k = i from fun e => hi e.symm)]; simp
      · rw [ih, hd]
theorem set_get (l : List Int) (k : Nat) (p : Int) (hk : k < l.length) (i : Nat) : (l.set k p).getD i 0 = if i = k then p else l.getD i 0 := by
  rw [List.getD, List.getElem?_set]
  by_cases hi : k = i
  · subst hi
    rw [if_pos rfl, if_pos hk, if_pos rfl]; rfl
  · rw [if_neg hi, if_neg (fun e => hi e.symm)]; rfl
theorem put_else (P : Int → Bool) (l : List Int) (k : Nat) (p : Int) (hk : k < l.length) (h64 : k < 64) : wA P (l.set k p) &&& (18446744073709551615 - 2 ^ k) = wA P l &&& (18446744073709551615 - 2 ^ k) := by
  have e : 18446744073709551615 - 2 ^ k = 2 ^ 64 - (2 ^ k + 1) := by omega
  have hlt : 2 ^ k < 2 ^ 64 := Nat.pow_lt_pow_right (by decide) h64
  unfold wA
  rw [e, List.length_set]
  apply Nat.eq_of_testBit_eq
  intro i
  rw [Nat.testBit_and, Nat.testBit_and, wM_bit, wM_bit, Nat.testBit_two_pow_sub_succ hlt, Nat.testBit_two_pow, set_get l k p hk]
  by_cases hi : i = k
  · subst hi; simp
  · rw [if_neg hi]
theorem and_pow (x k : Nat) : x &&& 2 ^ k = if x.testBit k then 2 ^ k else 0 := by
  apply Nat.eq_of_testBit_eq
  intro i
  rw [Nat.testBit_and, Nat.testBit_two_pow]
  by_cases hi : k = i
  · subst hi
    split
    · rename_i h; rw [h, Nat.testBit_two_pow, Bool.true_and]
    · rename_i h; rw [Nat.zero_testBit]; simpa using h
  · rw [decide_eq_false hi]
    split
    · rw [Nat.testBit_two_pow, decide_eq_false hi]; simp
    · rw [Nat.zero_testBit]; simp
theorem put_at (l : List Int) (k : Nat) (p q : Int) (hk : k < l.length) : ∃ a : Nat, wA (fun x : Int => x == q) (l.set k p) &&& 2 ^ k = a ∧ (((a : Nat) : Int) != 0) = (p == q) := by
  refine ⟨_, rfl, ?_⟩
  unfold wA
  rw [and_pow, wM_bit, List.length_set, set_get l k p hk, if_pos rfl, decide_eq_true hk, Bool.true_and]
  have h2 : 0 < 2 ^ k := Nat.two_pow_pos k
  cases hq : (p == q)
  · rw [if_neg (by simp)]; rfl
  · rw [if_pos rfl, bne_iff_ne]
    omega
theorem wM_apart (P Q : Int → Bool) (h : ∀ x, ¬ (P x = true ∧ Q x = true)) (l : List Int) : wA P l &&& wA Q l = 0 := by
  apply Nat.eq_of_testBit_eq
  intro i
  unfold wA
  rw [Nat.testBit_and, wM_bit, wM_bit, Nat.zero_testBit]
  have h2 := h (l.getD i 0)
  cases hp : P (l.getD i 0)
  · simp
  · cases hq : Q (l.getD i 0)
    · simp
    · exact absurd ⟨hp, hq⟩ h2
theorem wM_union (P Q R : Int → Bool) (h : ∀ x, P x = true ∨ Q x = true ∨ R x = true) (l : List Int) : (wA P l ||| wA Q l) ||| wA R l = 2 ^ l.length - 1 := by
  apply Nat.eq_of_testBit_eq
  intro i
  unfold wA
  rw [Nat.testBit_or, Nat.testBit_or, wM_bit, wM_bit, wM_bit, Nat.testBit_two_pow_sub_one]
  rcases h (l.getD i 0) with h | h | h <;> rw [h] <;> cases decide (i < l.length) <;> simp
theorem wA_lt (P : Int → Bool) (l : List Int) (h : l.length ≤ 64) : wA P l < 18446744073709551616 := wM_lt P l _ h
theorem wrap_pow {k : Nat} (h1 : k < 64) : IntKind.u64.wrap (2 ^ k) = ((2 ^ k : Nat) : Int) := by
  have e : 2 ^ k < 2 ^ 64 := Nat.pow_lt_pow_right (by decide) h1
  rw [IntKind.wrap_u64, Int.emod_eq_of_lt]
  · simp
  · exact Int.le_of_lt (Int.pow_pos (by decide))
  · have : ((2 ^ k : Nat) : Int) < ((2 ^ 64 : Nat) : Int) := by exact_mod_cast e
    simpa using this
end Go.Proofs.YtjglpphfkkabnaaDoor
