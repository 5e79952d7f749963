/- Layer 27: reaches of the reference. -/
import Derived.Test.YtbcdimklblpdnaaDoorYi
namespace Go.Proofs.YtbcdimklblpdnaaDoor
open Go Go.RowKit
set_option linter.unusedSimpArgs false
set_option linter.unusedVariables false
section
variable {f r a : Nat} {sf sr : Int} {ps : List Int}
theorem legV_bd (x y : Int) : (-1 ≤ (legV x y).1 ∧ (legV x y).1 ≤ 1) ∧ (-1 ≤ (legV x y).2 ∧ (legV x y).2 ≤ 1) := by
  unfold legV sgnI
  split
  · exact ⟨⟨by simp only []; omega, by simp only []; omega⟩, by simp⟩
  split
  · exact ⟨by simp, ⟨by simp only []; omega, by simp only []; omega⟩⟩
  · exact ⟨⟨by simp only []; omega, by simp only []; omega⟩, ⟨by simp only []; omega, by simp only []; omega⟩⟩
theorem Dir.legD (h : Dir f r a sf sr ps) : Dir f r a (legV sf sr).1 (legV sf sr).2 ps := by
  obtain ⟨⟨b1, b2⟩, b3, b4⟩ := legV_bd sf sr
  refine ⟨h.f0, h.f1, h.r0, h.r1, h.len, h.a0, ⟨by omega, by omega⟩, ⟨by omega, by omega⟩, ?_⟩
  have hn := h.ne
  unfold legV sgnI absI
  split
  · left; simp only []; omega
  split
  · right; simp only []; omega
  · rcases hn with hn | hn
    · left; simp only []; omega
    · right; simp only []; omega
/-- the square on the way -/
def legK (f r a : Nat) (sf sr : Int) : Int := sqK f r a (legV sf sr).1 (legV sf sr).2 1
theorem Dir.leg_on (h : Dir f r a sf sr ps) (hh : 0 ≤ sqK f r a sf sr 1) : 0 ≤ legK f r a sf sr := by
  obtain ⟨h1, h2⟩ := sqK_on hh
  obtain ⟨p1, p2⟩ := h.place
  obtain ⟨⟨b1, b2⟩, b3, b4⟩ := legV_bd sf sr
  have e1 : 0 ≤ ((a % f : Nat) : Int) + (legV sf sr).1 ∧ ((a % f : Nat) : Int) + (legV sf sr).1 ≤ (f : Int) - 1 := by
    generalize a % f = X at *
    unfold legV sgnI at *
    split
    · simp only []; omega
    split
    · simp only []; omega
    · simp only []; omega
  have e2 : 0 ≤ ((a / f : Nat) : Int) + (legV sf sr).2 ∧ ((a / f : Nat) : Int) + (legV sf sr).2 ≤ (r : Int) - 1 := by
    generalize a / f = X at *
    unfold legV sgnI at *
    split
    · simp only []; omega
    split
    · simp only []; omega
    · simp only []; omega
  unfold legK sqK atV
  have o1 : ((1 : Nat) : Int) * (legV sf sr).1 = (legV sf sr).1 := by omega
  have o2 : ((1 : Nat) : Int) * (legV sf sr).2 = (legV sf sr).2 := by omega
  rw [o1, o2, if_pos (by rw [Bool.and_eq_true, inB_iff, inB_iff]; exact ⟨e1, e2⟩)]
  exact Int.add_nonneg e1.1 (Int.mul_nonneg e2.1 (by omega))
theorem hurF_le (n k : Nat) : hurF f r a sf sr ps n k ≤ k + n := by
  induction n generalizing k with
  | zero => exact Nat.zero_le _
  | succ n ih =>
    unfold hurF
    split
    · split
      · have := ih (k + 1); omega
      · omega
    · omega
theorem hurV_le : hurV f r a sf sr ps ≤ 9 := hurF_le 8 1
theorem Dir.hur_le (h : Dir f r a sf sr ps) : hurV f r a sf sr ps ≤ 8 := by
  have key : ∀ (n k : Nat), k + n = 9 → hurF f r a sf sr ps n k ≤ 8 := by
    intro n
    induction n with
    | zero => intro k hk; exact Nat.zero_le _
    | succ n ih =>
      intro k hk
      unfold hurF
      split
      · split
        · exact ih (k + 1) (by omega)
        · omega
      · omega
  exact key 8 1 rfl
/-- the squares that an atom reaches by a step -/
def reachV (x : At) (f r a : Nat) (sf sr : Int) (ps : List Int) : List Int :=
  if x.kind = 2 then linV f r a sf sr ps 1 (if x.most = 0 then 8 else x.most.toNat)
  else if x.kind = 3 then (if hurV f r a sf sr ps = 0 then [] else linV f r a sf sr ps (hurV f r a sf sr ps + 1) 1)
  else if x.kind = 4 then (if hurV f r a sf sr ps = 0 then [] else linV f r a sf sr ps (hurV f r a sf sr ps + 1) 8)
  else if sqK f r a sf sr 1 < 0 then []
  else if x.kind = 5 ∧ ps.getD (legK f r a sf sr).toNat 0 ≠ 0 then [] else [sqK f r a sf sr 1]
end
theorem LnR.nil {w w' : World} {L : List Int} (h : L = []) (hb : Below w.heap.size w w') : LnR L (.returned (.slice none 0 0)) w w' := by
  subst h
  exact ⟨⟨none, 0, rfl, fun h => absurd h (by decide)⟩, hb⟩
theorem LnR.after {w w1 w' : World} {e : Ending} {L : List Int} (h : LnR L e w1 w') (hb : Below w.heap.size w w1) : LnR L e w w' :=
  ⟨h.out, hb.trans (h.below.mono hb.size)⟩
end Go.Proofs.YtbcdimklblpdnaaDoor
