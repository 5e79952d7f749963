/- Layer 27: the steps as the program makes them, sorted and compacted (plain); the sort over a row of its own. -/
import Derived.Test.YtbcdimklblpdnaaDoorYf
import Derived.Test.YtbcdimklblpdnaaDoorYso
namespace Go.Proofs.YtbcdimklblpdnaaDoor
open Go Go.RowKit
set_option linter.unusedSimpArgs false
set_option linter.unusedVariables false
def cfS (x y : St) : Int := wrap64 (wrap64 (wrap64 (100 * wrap64 (x.ranks - y.ranks)) + x.files) - y.files)
def insF (lt : St → St → Bool) (a b : Nat) : Nat → Nat → Array St → Array St
  | 0, _, d => d
  | n + 1, i, d => if i < b then insF lt a b n (i + 1) (Sort.insInner lt a i d) else d
theorem insOuter_insF (lt : St → St → Bool) (a b : Nat) : ∀ (n i : Nat) (d : Array St), b - i ≤ n → Sort.insOuter lt a b i d = insF lt a b n i d
  | 0, i, d, h => by
    rw [Sort.insOuter, if_neg (by omega)]; rfl
  | n + 1, i, d, h => by
    rw [Sort.insOuter]
    show _ = if i < b then insF lt a b n (i + 1) (Sort.insInner lt a i d) else d
    by_cases hi : i < b
    · rw [if_pos hi, if_pos hi]; exact insOuter_insF lt a b n (i + 1) _ (by omega)
    · rw [if_neg hi, if_neg hi]
theorem size_insI (lt : St → St → Bool) (a : Nat) : ∀ (j : Nat) (d : Array St), (Sort.insInner lt a j d).size = d.size
  | 0, d => rfl
  | j + 1, d => by
    unfold Sort.insInner
    split
    · rw [size_insI lt a j]; simp [Sort.swp]
    · rfl
theorem size_insF (lt : St → St → Bool) (a b : Nat) : ∀ (n i : Nat) (d : Array St), (insF lt a b n i d).size = d.size
  | 0, i, d => rfl
  | n + 1, i, d => by
    unfold insF
    split
    · rw [size_insF lt a b n, size_insI]
    · rfl
def sortA (l : List St) : Array St := insF (Go.Proofs.ltOf cfS) 0 l.length l.length 1 l.toArray
def sortS (l : List St) : List St := (sortA l).toList
theorem sortA_eq (l : List St) : Sort.insertionSort (Go.Proofs.ltOf cfS) l.toArray 0 l.length = sortA l := insOuter_insF _ _ _ _ _ _ (by omega)
theorem sortA_size (l : List St) : (sortA l).size = l.length := by unfold sortA; rw [size_insF]; simp
theorem sortS_len (l : List St) : (sortS l).length = l.length := by unfold sortS; rw [Array.length_toList, sortA_size]
/-- neighbours that are equal become one -/
def compP (p : St) : List St → List St
  | [] => []
  | x :: t => if x = p then compP x t else x :: compP x t
def compL : List St → List St
  | [] => []
  | x :: t => x :: compP x t
def keepW (y : Int) (b : Bool) (r : Int) : Bool := !(decide (y = 1 ∧ upS b r ≤ 0) || decide (y = 2 ∧ 0 ≤ upS b r))
def rawS (p q : Int) (n : Nat) : St := ⟨if n % 2 = 1 then -p else p, if 2 ≤ n then -q else q⟩
def rowS (y : Int) (b : Bool) (p q : Int) : Nat → List St
  | 0 => []
  | n + 1 => if keepW y b (rawS p q n).ranks then rowS y b p q n ++ [rawS p q n] else rowS y b p q n
def rawL (y : Int) (b : Bool) (s l : Int) : List St := rowS y b s l 4 ++ rowS y b l s 4
theorem rowS_le (y : Int) (b : Bool) (p q : Int) : ∀ n, (rowS y b p q n).length ≤ n
  | 0 => Nat.le_refl _
  | n + 1 => by
    have := rowS_le y b p q n
    unfold rowS
    split
    · rw [List.length_append]; simp; omega
    · omega
set_option maxRecDepth 100000 in
set_option maxHeartbeats 4000000 in
theorem table0 : ∀ (s l : Fin 8) (y : Fin 3) (b : Bool), s.1 ≤ l.1 → 1 ≤ l.1 → compL (sortS (rawL (y.1 : Int) b (s.1 : Int) (l.1 : Int))) = stepsL ⟨1, (s.1 : Int), (l.1 : Int), 0, 0, (y.1 : Int)⟩ b ∧ 1 ≤ (rawL (y.1 : Int) b (s.1 : Int) (l.1 : Int)).length := by decide +kernel
theorem keepS_same (x : At) (b : Bool) (p q : Int) : keepS x b p q = keepS ⟨1, x.short, x.long, 0, 0, x.way⟩ b p q := rfl
theorem refRow_same (x : At) (b : Bool) (r : Int) : ∀ m, refRow x b r m = refRow ⟨1, x.short, x.long, 0, 0, x.way⟩ b r m
  | 0 => rfl
  | m + 1 => by
    unfold refRow
    rw [refRow_same x b r m, keepS_same]
theorem refUp_same (x : At) (b : Bool) : ∀ n, refUp x b n = refUp ⟨1, x.short, x.long, 0, 0, x.way⟩ b n
  | 0 => rfl
  | n + 1 => by
    unfold refUp
    rw [refUp_same x b n, refRow_same]
theorem table {x : At} (h : okA x) (b : Bool) : compL (sortS (rawL x.way b x.short x.long)) = stepsL x b ∧ 1 ≤ (rawL x.way b x.short x.long).length := by
  obtain ⟨_, _, hy, hs, hl, _⟩ := h
  have hl1 : 1 ≤ x.long := by have := hl.1; unfold leastA at this; split at this <;> omega
  have hle : stepsL x b = stepsL ⟨1, x.short, x.long, 0, 0, x.way⟩ b := refUp_same x b 15
  rw [hle]
  obtain ⟨s, hs'⟩ := Int.eq_ofNat_of_zero_le hs.1
  obtain ⟨l, hl'⟩ := Int.eq_ofNat_of_zero_le (show 0 ≤ x.long by omega)
  obtain ⟨y, hy'⟩ := Int.eq_ofNat_of_zero_le hy.1
  rw [hs', hl', hy']
  exact table0 ⟨s, by omega⟩ ⟨l, by omega⟩ ⟨y, by omega⟩ b (by show s ≤ l; omega) (by show 1 ≤ l; omega)
end Go.Proofs.YtbcdimklblpdnaaDoor
