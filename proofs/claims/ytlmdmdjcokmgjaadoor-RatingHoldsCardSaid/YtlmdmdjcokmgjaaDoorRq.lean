/- Layer 45, plain: sums of games, the lists of the theorem of the stage. -/
import Derived.Test.YtlmdmdjcokmgjaaDoorRn
namespace Go.Proofs.YtlmdmdjcokmgjaaDoor
set_option linter.unusedSimpArgs false
set_option linter.unusedVariables false

def sumTo (g : Nat → Int) : Nat → Int
  | 0 => 0
  | k + 1 => sumTo g k + g k
theorem sumTo_congr {g h : Nat → Int} : ∀ (n : Nat), (∀ j, j < n → g j = h j) → sumTo g n = sumTo h n
  | 0, _ => rfl
  | n + 1, hh => by
    unfold sumTo
    rw [sumTo_congr n (fun j hj => hh j (by omega)), hh n (by omega)]
theorem sumTo_front (g : Nat → Int) : ∀ n, sumTo g (n + 1) = g 0 + sumTo (fun j => g (j + 1)) n
  | 0 => by simp [sumTo]
  | n + 1 => by
    rw [sumTo, sumTo_front g n, sumTo]
    omega
theorem sumTo_rev (n : Nat) : ∀ (g : Nat → Int), sumTo (fun j => g (n - 1 - j)) n = sumTo g n := by
  induction n with
  | zero => intro g; rfl
  | succ n ih =>
    intro g
    rw [sumTo_front g n, sumTo, ← ih (fun j => g (j + 1)), show n + 1 - 1 - n = 0 by omega]
    rw [sumTo_congr (g := fun j => g (n + 1 - 1 - j)) (h := fun j => g (n - 1 - j + 1)) n (fun j hj => by show g _ = g _; congr 1; omega)]
    omega
theorem sumTo_add (g h : Nat → Int) : ∀ n, sumTo g n + sumTo h n = sumTo (fun j => g j + h j) n
  | 0 => rfl
  | n + 1 => by
    have := sumTo_add g h n
    unfold sumTo
    omega
theorem sumTo_zero (g : Nat → Int) : ∀ n, (∀ j, j < n → g j = 0) → sumTo g n = 0
  | 0, _ => rfl
  | n + 1, h => by
    unfold sumTo
    rw [sumTo_zero g n (fun j hj => h j (by omega)), h n (by omega)]
    rfl
theorem balK_sum (r : Int) (l : List (Int × Int)) : ∀ k, balK r l k = sumTo (fun j => 50 * (gameAt l j).2 - expV r (gameAt l j).1) k
  | 0 => rfl
  | k + 1 => by
    unfold balK sumTo
    rw [balK_sum r l k]

def mineL (b : Int) (l : List (Int × Int)) (n : Nat) : List (Int × Int) := (List.range n).map fun j => (b, (gameAt l j).2)
def yoursL (a : Int) (l : List (Int × Int)) (n : Nat) : List (Int × Int) := (List.range n).map fun j => (a, 2 - (gameAt l j).2)
def backL (l : List (Int × Int)) (n : Nat) : List (Int × Int) := (List.range n).map fun j => gameAt l (l.length - 1 - j)
theorem mineL_length (b : Int) (l : List (Int × Int)) (n : Nat) : (mineL b l n).length = n := by simp [mineL]
theorem yoursL_length (a : Int) (l : List (Int × Int)) (n : Nat) : (yoursL a l n).length = n := by simp [yoursL]
theorem backL_length (l : List (Int × Int)) (n : Nat) : (backL l n).length = n := by simp [backL]
theorem mineL_succ (b : Int) (l : List (Int × Int)) (n : Nat) : mineL b l n ++ [(b, (gameAt l n).2)] = mineL b l (n + 1) := by simp [mineL, List.range_succ]
theorem yoursL_succ (a : Int) (l : List (Int × Int)) (n : Nat) : yoursL a l n ++ [(a, 2 - (gameAt l n).2)] = yoursL a l (n + 1) := by simp [yoursL, List.range_succ]
theorem backL_succ (l : List (Int × Int)) (n : Nat) : backL l n ++ [gameAt l (l.length - 1 - n)] = backL l (n + 1) := by simp [backL, List.range_succ]
theorem gameAt_map (f : Nat → Int × Int) {n k : Nat} (h : k < n) : gameAt ((List.range n).map f) k = f k := by
  unfold gameAt
  simp [List.getD, h]
theorem mineL_at (b : Int) (l : List (Int × Int)) {n k : Nat} (h : k < n) : gameAt (mineL b l n) k = (b, (gameAt l k).2) := gameAt_map _ h
theorem yoursL_at (a : Int) (l : List (Int × Int)) {n k : Nat} (h : k < n) : gameAt (yoursL a l n) k = (a, 2 - (gameAt l k).2) := gameAt_map _ h
theorem backL_at (l : List (Int × Int)) {n k : Nat} (h : k < n) : gameAt (backL l n) k = gameAt l (l.length - 1 - k) := gameAt_map _ h

theorem bal_mine_yours (a b : Int) (l : List (Int × Int)) (n : Nat) : balV a (mineL b l n) + balV b (yoursL a l n) = 0 := by
  unfold balV
  rw [mineL_length, yoursL_length, balK_sum, balK_sum, sumTo_add]
  refine sumTo_zero _ n fun j hj => ?_
  show _ = (0 : Int)
  simp only [mineL_at b l hj, yoursL_at a l hj]
  have := expV_sum a b
  omega
theorem bal_back (a : Int) (l : List (Int × Int)) : balV a (backL l l.length) = balV a l := by
  unfold balV
  rw [backL_length, balK_sum, balK_sum, ← sumTo_rev l.length (fun j => 50 * (gameAt l j).2 - expV a (gameAt l j).1)]
  refine sumTo_congr _ fun j hj => ?_
  show _ = _
  simp only [backL_at l hj]
theorem vld_of {l : List (Int × Int)} (h : ∀ k, k < l.length → okG (gameAt l k)) (h2 : l.length ≤ 200) : vldG l = true := by
  rw [vldG_all h]; exact decide_eq_true h2
theorem vld_mine {b : Int} {l : List (Int × Int)} {n : Nat} (hv : vldG l = true) (b0 : 0 ≤ b) (b1 : b ≤ 4000) (hn : n ≤ l.length) : vldG (mineL b l n) = true := by
  obtain ⟨hok, hm⟩ := vldG_out hv
  refine vld_of (fun k hk => ?_) (by rw [mineL_length]; omega)
  rw [mineL_length] at hk
  rw [mineL_at b l hk]
  have := hok k (by omega)
  exact ⟨b0, b1, this.2.2.1, this.2.2.2⟩
theorem vld_yours {a : Int} {l : List (Int × Int)} {n : Nat} (hv : vldG l = true) (a0 : 0 ≤ a) (a1 : a ≤ 4000) (hn : n ≤ l.length) : vldG (yoursL a l n) = true := by
  obtain ⟨hok, hm⟩ := vldG_out hv
  refine vld_of (fun k hk => ?_) (by rw [yoursL_length]; omega)
  rw [yoursL_length] at hk
  rw [yoursL_at a l hk]
  have := hok k (by omega)
  have h1 := this.2.2.1
  have h2 := this.2.2.2
  refine ⟨a0, a1, ?_, ?_⟩
  · show 0 ≤ 2 - _; omega
  · show 2 - _ ≤ 2; omega
theorem vld_back {l : List (Int × Int)} {n : Nat} (hv : vldG l = true) (hn : n ≤ l.length) : vldG (backL l n) = true := by
  obtain ⟨hok, hm⟩ := vldG_out hv
  refine vld_of (fun k hk => ?_) (by rw [backL_length]; omega)
  rw [backL_length] at hk
  rw [backL_at l hk]
  exact hok _ (by omega)
theorem balV_one (r x y : Int) : balV r [(x, y)] = 50 * y - expV r x := by
  unfold balV
  show balK r [(x, y)] 1 = _
  unfold balK balK
  simp [gameAt]
theorem next_win {a b k : Int} (a0 : 0 ≤ a) (a1 : a ≤ 4000) (k0 : 1 ≤ k) : a ≤ nextV a k [(b, 2)] := by
  unfold nextV
  rw [balV_one]
  have h := expV_bd a b
  have h2 : 0 ≤ k * (50 * 2 - expV a b) := Int.mul_nonneg (by omega) (by omega)
  unfold roundV
  rw [if_neg (by omega)]
  omega
theorem next_loss {a b k : Int} (a0 : 0 ≤ a) (a1 : a ≤ 4000) (k0 : 1 ≤ k) : nextV a k [(b, 0)] ≤ a := by
  unfold nextV
  rw [balV_one]
  have h := expV_bd a b
  have h3 : k * 1 ≤ k * (expV a b) := Int.mul_le_mul_of_nonneg_left (by omega) (by omega)
  have h2 : k * (50 * 0 - expV a b) < 0 := by
    have : k * (50 * 0 - expV a b) = -(k * expV a b) := by rw [show (50 * 0 - expV a b) = -expV a b by omega, Int.mul_neg]
    omega
  unfold roundV
  rw [if_pos h2]
  omega
end Go.Proofs.YtlmdmdjcokmgjaaDoor
