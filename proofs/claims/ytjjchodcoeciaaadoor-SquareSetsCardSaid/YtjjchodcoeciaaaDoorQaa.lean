/- Layer 1: plain laws of shifting there and back. No program in sight. -/
import Derived.Test.YtjjchodcoeciaaaDoorQz
namespace Go.Proofs.YtjjchodcoeciaaaDoor
open Go.RowKit
set_option linter.unusedSimpArgs false
set_option linter.unusedVariables false

/-- where a square goes -/
def goS (f dx dy : Int) (a : Nat) : Nat := (((a : Int) % f + dx) + ((a : Int) / f + dy) * f).toNat
theorem accS_bit (f r dx dy : Int) (l : List Nat) (j : Nat) : (accS f r dx dy l).testBit j = true ↔ ∃ a ∈ l, onB f r ((a : Int) % f + dx) ((a : Int) / f + dy) = true ∧ j = goS f dx dy a := by
  have key : ∀ (l : List Nat) (acc : Nat), (l.foldl (stepS f r dx dy) acc).testBit j = true ↔ acc.testBit j = true ∨ ∃ a ∈ l, onB f r ((a : Int) % f + dx) ((a : Int) / f + dy) = true ∧ j = goS f dx dy a := by
    intro l
    induction l with
    | nil => intro acc; simp
    | cons a l ih =>
      intro acc
      rw [List.foldl_cons, ih]
      have hstep : (stepS f r dx dy acc a).testBit j = true ↔ acc.testBit j = true ∨ (onB f r ((a : Int) % f + dx) ((a : Int) / f + dy) = true ∧ j = goS f dx dy a) := by
        unfold stepS
        split
        · rename_i ho
          rw [Nat.testBit_or, Nat.one_shiftLeft, Nat.testBit_two_pow]
          simp only [Bool.or_eq_true, decide_eq_true_eq]
          constructor
          · rintro (h | h)
            · exact .inl h
            · exact .inr ⟨ho, h.symm⟩
          · rintro (h | ⟨_, h⟩)
            · exact .inl h
            · exact .inr h.symm
        · rename_i ho
          constructor
          · exact .inl
          · rintro (h | ⟨h, _⟩)
            · exact h
            · exact absurd h ho
      rw [hstep]
      constructor
      · rintro ((h | h) | ⟨b, hb, h⟩)
        · exact .inl h
        · exact .inr ⟨a, List.mem_cons_self, h⟩
        · exact .inr ⟨b, List.mem_cons_of_mem _ hb, h⟩
      · rintro (h | ⟨b, hb, h⟩)
        · exact .inl (.inl h)
        · rcases List.mem_cons.1 hb with rfl | hb
          · exact .inl (.inr h)
          · exact .inr ⟨b, hb, h⟩
  have h := key l 0
  simpa [accS] using h
theorem mem_sqs {m : Nat} (hm : m < 18446744073709551616) (a : Nat) : a ∈ sqs m ↔ m.testBit a = true ∧ a < 64 := by
  have h := LI_sqs m hm
  constructor
  · intro ha
    have h1 : (a : Int) ∈ LI m 64 := by rw [h]; exact List.mem_map.2 ⟨a, ha, rfl⟩
    obtain ⟨i, hi, hb, hlt⟩ := LI_bit h1
    obtain rfl : a = i := by exact_mod_cast hi
    exact ⟨hb, hlt⟩
  · rintro ⟨hb, hlt⟩
    have h1 := bit_LI hb hlt
    rw [h] at h1
    obtain ⟨i, hi, e⟩ := List.mem_map.1 h1
    obtain rfl : i = a := by exact_mod_cast e
    exact hi
theorem goS_back {f r dx dy : Int} (hs : szB f r = true) {a : Nat} (ho : onB f r ((a : Int) % f + dx) ((a : Int) / f + dy) = true) : ((goS f dx dy a : Nat) : Int) % f = (a : Int) % f + dx ∧ ((goS f dx dy a : Nat) : Int) / f = (a : Int) / f + dy ∧ goS f dx dy a < 64 := by
  obtain ⟨q0, q1, q2⟩ := on_sq hs ho
  obtain ⟨hz, s0, s1⟩ := sqB_out q0
  obtain ⟨f0, f1, r0, r1⟩ := szB_out hs
  have := (mul_bd f0 f1 r0 r1).2
  have e : ((goS f dx dy a : Nat) : Int) = ((a : Int) % f + dx) + ((a : Int) / f + dy) * f := by unfold goS; omega
  rw [e]
  exact ⟨q1, q2, by omega⟩
/-- what comes back: the squares that had stayed on the board -/
theorem again_bit {f r dx dy : Int} (hs : szB f r = true) {m : Nat} (hm : m < 18446744073709551616) (hon : ∀ x ∈ LI m 64, x < f * r) (i : Nat) :
    (accS f r (-dx) (-dy) (sqs (accS f r dx dy (sqs m)))).testBit i = true ↔ m.testBit i = true ∧ onB f r ((i : Int) % f + dx) ((i : Int) / f + dy) = true := by
  have hth := accS_lt (dx := dx) (dy := dy) hs (sqs m)
  obtain ⟨f0, f1, r0, r1⟩ := szB_out hs
  have hsq : ∀ a : Nat, a ∈ sqs m → sqB f r (a : Int) = true := fun a ha => by
    obtain ⟨hb, hl⟩ := (mem_sqs hm a).1 ha
    exact on_sqs hs hon _ (bit_LI hb hl)
  have hback : ∀ a : Nat, sqB f r (a : Int) = true → onB f r ((a : Int) % f + dx) ((a : Int) / f + dy) = true → onB f r (((goS f dx dy a : Nat) : Int) % f + -dx) (((goS f dx dy a : Nat) : Int) / f + -dy) = true ∧ goS f (-dx) (-dy) (goS f dx dy a) = a := fun a ha ho => by
    obtain ⟨e1, e2, _⟩ := goS_back hs ho
    obtain ⟨d0, d1, d2, d3, d4⟩ := place_bd ha
    refine ⟨?_, ?_⟩
    · rw [e1, e2]; exact decide_eq_true (by omega)
    · unfold goS
      unfold goS at e1 e2
      rw [e1, e2]
      rw [show (a : Int) % f + dx + -dx = (a : Int) % f by omega, show (a : Int) / f + dy + -dy = (a : Int) / f by omega, d4]
      simp
  rw [accS_bit]
  constructor
  · rintro ⟨j, hj, _, rfl⟩
    obtain ⟨hjb, _⟩ := (mem_sqs hth j).1 hj
    obtain ⟨a, ha, ho, rfl⟩ := (accS_bit _ _ _ _ _ _).1 hjb
    rw [(hback a (hsq a ha) ho).2]
    exact ⟨((mem_sqs hm a).1 ha).1, ho⟩
  · rintro ⟨hb, ho⟩
    have hi64 : i < 64 := by
      rcases Nat.lt_or_ge i 64 with h | h
      · exact h
      · have : m < 2 ^ i := Nat.lt_of_lt_of_le hm (show 2 ^ 64 ≤ 2 ^ i from Nat.pow_le_pow_right (by decide) h)
        rw [Nat.testBit_lt_two_pow this] at hb; cases hb
    have hmem := (mem_sqs hm i).2 ⟨hb, hi64⟩
    obtain ⟨b1, b2⟩ := hback i (hsq i hmem) ho
    refine ⟨goS f dx dy i, (mem_sqs hth _).2 ⟨(accS_bit _ _ _ _ _ _).2 ⟨i, hmem, ho, rfl⟩, (goS_back hs ho).2.2⟩, b1, b2.symm⟩
/-- a set that is shifted there and back has some of its squares -/
theorem again_sub {f r dx dy : Int} (hs : szB f r = true) {m : Nat} (hm : m < 18446744073709551616) (hon : ∀ x ∈ LI m 64, x < f * r) :
    accS f r (-dx) (-dy) (sqs (accS f r dx dy (sqs m))) &&& (18446744073709551615 - m) = 0 := by
  apply Nat.eq_of_testBit_eq
  intro i
  rw [Nat.testBit_and, Nat.zero_testBit, show 18446744073709551615 - m = 2 ^ 64 - (m + 1) by omega, Nat.testBit_two_pow_sub_succ (by omega)]
  cases h : (accS f r (-dx) (-dy) (sqs (accS f r dx dy (sqs m)))).testBit i
  · simp
  · have := ((again_bit hs hm hon i).1 h).1
    simp [this]
end Go.Proofs.YtjjchodcoeciaaaDoor
