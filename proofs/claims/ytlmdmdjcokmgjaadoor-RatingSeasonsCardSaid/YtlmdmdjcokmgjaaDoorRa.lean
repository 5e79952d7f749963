/- Layer 45, plain: the table of limits, the expectation, the balance, the new rating, the search. No program in sight. -/
import Derived.ProofKit
namespace Go.Proofs.YtlmdmdjcokmgjaaDoor
set_option linter.unusedSimpArgs false
set_option linter.unusedVariables false

/-- the table of limits -/
def lims : List Int := [3, 10, 17, 25, 32, 39, 46, 53, 61, 68, 76, 83, 91, 98, 106, 113, 121, 129, 137, 145, 153, 162, 170, 179, 188, 197, 206, 215, 225, 235, 245, 256, 267, 278, 290, 302, 315, 328, 344, 357, 374, 391]
def limAt (k : Nat) : Int := lims.getD k 0
/-- how many of the first k limits are less than d -/
def cnt (d : Int) : Nat → Int
  | 0 => 0
  | k + 1 => if limAt k < d then cnt d k + 1 else cnt d k
theorem cnt_yes {d : Int} {k : Nat} (h : limAt k < d) : cnt d (k + 1) = cnt d k + 1 := if_pos h
theorem cnt_no {d : Int} {k : Nat} (h : ¬ limAt k < d) : cnt d (k + 1) = cnt d k := if_neg h
theorem cnt_bd (d : Int) (k : Nat) : 0 ≤ cnt d k ∧ cnt d k ≤ k := by
  induction k with
  | zero => exact ⟨Int.le_refl _, Int.le_refl _⟩
  | succ k ih =>
    unfold cnt
    split
    · omega
    · omega
theorem cnt_mono {d e : Int} (h : d ≤ e) (k : Nat) : cnt d k ≤ cnt e k := by
  induction k with
  | zero => exact Int.le_refl _
  | succ k ih =>
    unfold cnt
    split
    · rw [if_pos (by omega)]; omega
    · split <;> omega
theorem cnt_zero {d : Int} (h : d ≤ 0) : cnt d 42 = 0 := by
  have : ∀ k, k ≤ 42 → cnt d k = 0 := by
    intro k
    induction k with
    | zero => intro _; rfl
    | succ k ih =>
      intro hk
      have h0 : ∀ j, j < 42 → 0 < limAt j := by decide
      rw [cnt_no (by have := h0 k (by omega); omega), ih (by omega)]
  exact this 42 (Nat.le_refl _)

/-- the expectation of a against b -/
def expV (a b : Int) : Int := if a < b then 50 - cnt (min 400 (b - a)) 42 else 50 + cnt (min 400 (a - b)) 42
theorem expV_bd (a b : Int) : 8 ≤ expV a b ∧ expV a b ≤ 92 := by
  unfold expV
  have h1 := cnt_bd (min 400 (b - a)) 42
  have h2 := cnt_bd (min 400 (a - b)) 42
  split <;> omega
theorem expV_lt {a b : Int} (h : a < b) : expV a b = 100 - expV b a := by
  unfold expV
  rw [if_pos h, if_neg (by omega)]
  omega
theorem expV_sum (a b : Int) : expV a b + expV b a = 100 := by
  by_cases h : a < b
  · rw [expV_lt h]; omega
  · by_cases h' : b < a
    · rw [expV_lt h']; omega
    · obtain rfl : a = b := by omega
      unfold expV
      rw [if_neg h, cnt_zero (by omega)]
      omega
theorem expV_mono {a b c : Int} (h : b ≤ a) : expV b c ≤ expV a c := by
  unfold expV
  have h0 := cnt_bd (min 400 (a - c)) 42
  have h1 := cnt_bd (min 400 (c - b)) 42
  split
  · split
    · have := cnt_mono (d := min 400 (c - a)) (e := min 400 (c - b)) (by omega) 42
      omega
    · omega
  · rw [if_neg (by omega)]
    have := cnt_mono (d := min 400 (b - c)) (e := min 400 (a - c)) (by omega) 42
    omega

/-- a list of games: the foe and the points of each -/
def okG (g : Int × Int) : Prop := 0 ≤ g.1 ∧ g.1 ≤ 4000 ∧ 0 ≤ g.2 ∧ g.2 ≤ 2
instance (g : Int × Int) : Decidable (okG g) := by unfold okG; infer_instance
def gameAt (l : List (Int × Int)) (k : Nat) : Int × Int := l.getD k (0, 0)
def allG (l : List (Int × Int)) : Prop := ∀ k, k < l.length → okG (gameAt l k)
def balK (r : Int) (l : List (Int × Int)) : Nat → Int
  | 0 => 0
  | k + 1 => balK r l k + (50 * (gameAt l k).2 - expV r (gameAt l k).1)
def balV (r : Int) (l : List (Int × Int)) : Int := balK r l l.length
theorem balK_bd (r : Int) (l : List (Int × Int)) (k : Nat) (hk : k ≤ l.length) (h : ∀ j, j < k → okG (gameAt l j)) : -(100 * k : Int) ≤ balK r l k ∧ balK r l k ≤ 100 * k := by
  induction k with
  | zero => exact ⟨Int.le_refl _, Int.le_refl _⟩
  | succ k ih =>
    have := ih (by omega) (fun j hj => h j (by omega))
    have hg := h k (by omega)
    have he := expV_bd r (gameAt l k).1
    unfold okG at hg
    unfold balK
    omega
theorem balV_mono {a b : Int} (h : b ≤ a) (l : List (Int × Int)) : balV a l ≤ balV b l := by
  unfold balV
  generalize l.length = n
  induction n with
  | zero => exact Int.le_refl _
  | succ k ih =>
    have := expV_mono (c := (gameAt l k).1) h
    unfold balK
    omega

/-- the new rating -/
def roundV (n : Int) : Int := if n < 0 then -((-n + 50) / 100) else (n + 50) / 100
def nextV (r k : Int) (l : List (Int × Int)) : Int := min 4000 (max 0 (r + roundV (k * balV r l)))
end Go.Proofs.YtlmdmdjcokmgjaaDoor
