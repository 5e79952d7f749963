/- Layer 27: squares in a direction, plain; hurdle of the reference. -/
import Derived.Test.YtbcdimklblpdnaaDoorYg
namespace Go.Proofs.YtbcdimklblpdnaaDoor
open Go Go.RowKit
set_option linter.unusedSimpArgs false
set_option linter.unusedVariables false
def pEnc (x : Int) : List Value := [.int .i8 x]
theorem pEnc_len (x : Int) : (pEnc x).length = 1 := rfl
theorem recP {w : World} {B : Nat} {A : Option Addr} {l : List Int} (h : RecAt pEnc 1 w B A l) {k : Nat} {x : Int} (hx : l[k]? = some x) : ∃ b off, A = some ⟨b, off, none⟩ ∧ b < B ∧ w.cell? ⟨b, off + k, none⟩ = some (.int .i8 x) := by
  obtain ⟨b, off, e, hb, hc⟩ := h (by have := (List.getElem?_eq_some_iff.1 hx).1; omega)
  refine ⟨b, off, e, hb, ?_⟩
  have := hc k x hx 0 _ rfl
  simpa using this
/-- a board's numbers and a step's -/
structure Dir (f r a : Nat) (sf sr : Int) (ps : List Int) : Prop where
  f0 : 3 ≤ f
  f1 : f ≤ 8
  r0 : 3 ≤ r
  r1 : r ≤ 8
  len : ps.length = f * r
  a0 : a < f * r
  s0 : -7 ≤ sf ∧ sf ≤ 7
  s1 : -7 ≤ sr ∧ sr ≤ 7
  ne : sf ≠ 0 ∨ sr ≠ 0
/-- the square that is k steps away -/
def sqK (f r a : Nat) (sf sr : Int) (k : Nat) : Int := atV f r a ((k : Int) * sf) ((k : Int) * sr)
theorem mul_bd7 {k : Nat} {s : Int} (hk : k ≤ 20) (h : -7 ≤ s ∧ s ≤ 7) : -1000 ≤ (k : Int) * s ∧ (k : Int) * s ≤ 1000 := by
  have h1 : (k : Int) * s ≤ (k : Int) * 7 := Int.mul_le_mul_of_nonneg_left h.2 (by omega)
  have h2 : (k : Int) * (-7) ≤ (k : Int) * s := Int.mul_le_mul_of_nonneg_left h.1 (by omega)
  omega
theorem inB_iff {n a b : Int} : inB n a b = true ↔ a ≤ n ∧ n ≤ b := by
  unfold inB
  rw [Bool.and_eq_true, decide_eq_true_eq, decide_eq_true_eq]
section
variable {f r a : Nat} {sf sr : Int} {ps : List Int}
theorem Dir.place (h : Dir f r a sf sr ps) : a % f < f ∧ a / f < r := by
  have h0 := h.f0
  refine ⟨Nat.mod_lt _ (by omega), ?_⟩
  have := h.a0
  rw [Nat.mul_comm] at this
  exact (Nat.div_lt_iff_lt_mul (by omega)).2 this
theorem sqK_on {k : Nat} (h : 0 ≤ sqK f r a sf sr k) : (0 ≤ ((a % f : Nat) : Int) + (k : Int) * sf ∧ ((a % f : Nat) : Int) + (k : Int) * sf ≤ (f : Int) - 1) ∧ (0 ≤ ((a / f : Nat) : Int) + (k : Int) * sr ∧ ((a / f : Nat) : Int) + (k : Int) * sr ≤ (r : Int) - 1) := by
  unfold sqK atV at h
  by_cases hh : (inB (((a % f : Nat) : Int) + (k : Int) * sf) 0 ((f : Int) - 1) && inB (((a / f : Nat) : Int) + (k : Int) * sr) 0 ((r : Int) - 1)) = true
  · rw [Bool.and_eq_true, inB_iff, inB_iff] at hh
    exact hh
  · rw [if_neg hh] at h
    omega
theorem far_one {k : Nat} {s : Int} (hk : 8 ≤ k) (h : s ≠ 0) : 8 ≤ (k : Int) * s ∨ (k : Int) * s ≤ -8 := by
  rcases Int.lt_or_gt_of_ne h with h1 | h1
  · have h2 : (k : Int) * s ≤ (k : Int) * (-1) := Int.mul_le_mul_of_nonneg_left (by omega) (by omega)
    omega
  · have h2 : (k : Int) * 1 ≤ (k : Int) * s := Int.mul_le_mul_of_nonneg_left (by omega) (by omega)
    omega
theorem Dir.far (h : Dir f r a sf sr ps) {k : Nat} (hk : 8 ≤ k) : ¬ 0 ≤ sqK f r a sf sr k := fun hh => by
  obtain ⟨h1, h2⟩ := sqK_on hh
  obtain ⟨p1, p2⟩ := h.place
  have := h.f1
  have := h.r1
  generalize a % f = X at *
  generalize a / f = Y at *
  rcases h.ne with e | e
  · rcases far_one hk e with h3 | h3 <;> omega
  · rcases far_one hk e with h3 | h3 <;> omega
theorem Dir.lt (h : Dir f r a sf sr ps) {k : Nat} (hh : 0 ≤ sqK f r a sf sr k) : sqK f r a sf sr k < ((f * r : Nat) : Int) := by
  obtain ⟨h1, h2⟩ := sqK_on hh
  have e : sqK f r a sf sr k = (((a % f : Nat) : Int) + (k : Int) * sf) + (((a / f : Nat) : Int) + (k : Int) * sr) * f := by
    unfold sqK atV
    rw [if_pos (by rw [Bool.and_eq_true, inB_iff, inB_iff]; exact ⟨h1, h2⟩)]
  rw [e]
  have h3 : (((a / f : Nat) : Int) + (k : Int) * sr) * f ≤ ((r : Int) - 1) * f := Int.mul_le_mul_of_nonneg_right h2.2 (by omega)
  have h4 : ((r : Int) - 1) * f = ((f * r : Nat) : Int) - f := by
    rw [Int.sub_mul, Int.one_mul, Int.natCast_mul, Int.mul_comm]
  omega
/-- how many steps away the first occupied square is -/
def hurF (f r a : Nat) (sf sr : Int) (ps : List Int) : Nat → Nat → Nat
  | 0, _ => 0
  | n + 1, k => if 0 ≤ sqK f r a sf sr k then (if ps.getD (sqK f r a sf sr k).toNat 0 = 0 then hurF f r a sf sr ps n (k + 1) else k) else 0
def hurV (f r a : Nat) (sf sr : Int) (ps : List Int) : Nat := hurF f r a sf sr ps 8 1
end
end Go.Proofs.YtbcdimklblpdnaaDoor
