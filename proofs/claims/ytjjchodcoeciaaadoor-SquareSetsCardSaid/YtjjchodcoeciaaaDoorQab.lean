/- Layer 1: Shift at any numbers; plain laws of distances. -/
import Derived.Test.YtjjchodcoeciaaaDoorQaa
namespace Go.Proofs.YtjjchodcoeciaaaDoor
open Go.RowKit
set_option linter.unusedSimpArgs false
set_option linter.unusedVariables false

theorem accS_far {f r dx dy : Int} {m : Nat} (hs : szB f r = true) (hm : m < 18446744073709551616) (hon : ∀ x ∈ LI m 64, x < f * r) (hn : ¬ ((-f < dx ∧ dx < f) ∧ -r < dy ∧ dy < r)) : accS f r dx dy (sqs m) = 0 := by
  rw [← shift_same f r dx dy m hm, nl_far (by have := (szB_out hs).1; omega) hn _ (on_sqs hs hon)]
  rfl
/-- Shift of a set of the board, at any numbers -/
theorem pshift_any (f r dx dy : Int) (m : Nat) (w : World) (hT : TabAt w) (hs : szB f r = true) (hm : m < 18446744073709551616) (hon : ∀ x ∈ LI m 64, x < f * r) :
    Calls Tryd.prog 30 #[.agg #[.int .i64 f, .int .i64 r], .int .u64 (m : Int), .int .i64 dx, .int .i64 dy] w fun e w' => e = .returned (.tuple #[.int .u64 (accS f r dx dy (sqs m) : Nat), .int .i64 0]) ∧ Below w.heap.size w w' := by
  have hand := (hand_iff hs m hm).2 hon
  by_cases hnear : (-f < dx ∧ dx < f) ∧ -r < dy ∧ dy < r
  · exact pshift_in f r dx dy m w hT hs hm hand hnear.1.1 hnear.1.2 hnear.2.1 hnear.2.2
  · rw [accS_far hs hm hon hnear]
    exact pshift_far f r dx dy m w hs hm hand hnear
/-- a shifted set is one of the board -/
theorem accS_on {f r dx dy : Int} (hs : szB f r = true) (l : List Nat) : ∀ x ∈ LI (accS f r dx dy l) 64, x < f * r := by
  intro x hx
  obtain ⟨i, rfl, hb, hi⟩ := LI_bit hx
  obtain ⟨a, ha, ho, rfl⟩ := (accS_bit _ _ _ _ _ _).1 hb
  have h := sqB_out (on_sq hs ho).1
  unfold goS
  omega
theorem dist_symm (f a b : Int) : distV f a b = distV f b a := by unfold distV; omega
theorem dist_tri (f a b c : Int) : distV f a c ≤ distV f a b + distV f b c := by unfold distV; omega
theorem dist_bd {f r a b : Int} (ha : sqB f r a = true) (hb : sqB f r b = true) : 0 ≤ distV f a b ∧ distV f a b ≤ 8 := by
  obtain ⟨f0, f1, r0, r1⟩ := szB_out (sqB_out ha).1
  obtain ⟨a0, a1, a2, a3, _⟩ := place_bd ha
  obtain ⟨b0, b1, b2, b3, _⟩ := place_bd hb
  unfold distV
  omega
theorem dist_zero {f r a b : Int} (ha : sqB f r a = true) (hb : sqB f r b = true) : distV f a b = 0 ↔ a = b := by
  obtain ⟨a0, a1, a2, a3, a4⟩ := place_bd ha
  obtain ⟨b0, b1, b2, b3, b4⟩ := place_bd hb
  constructor
  · intro h
    unfold distV at h
    have h1 : a % f = b % f := by omega
    have h2 : a / f = b / f := by omega
    rw [← a4, ← b4, h1, h2]
  · rintro rfl
    unfold distV
    omega
end Go.Proofs.YtjjchodcoeciaaaDoor
