/- Layer 43: sets as numbers; the table of lowest costs, plain; rows of numbers in blocks. -/
import Derived.Test.YtjjjdoealagpcaaDoorGk
import Derived.Laws.Rows
import Derived.Laws.Tables
import Derived.Laws.BitsAllLaws
import Derived.Laws.MakeOwn
namespace Go.Proofs.YtjjjdoealagpcaaDoor
open Go Go.RowKit
set_option linter.unusedSimpArgs false
set_option linter.unusedVariables false
theorem i64_nat {a : Nat} (h : a < 9223372036854775808) : IntKind.i64.wrap (a : Int) = (a : Int) := IntWalk.i64_in _ (by omega)
theorem bits_and_i64_nat (a b : Nat) (ha : a < 9223372036854775808) (hb : b < 9223372036854775808) : bits .and .i64 (a : Int) (b : Int) = ((a &&& b : Nat) : Int) := by
  have hx : a &&& b ≤ a := Nat.and_le_left
  have h1 : (BitVec.ofInt 64 (a : Int)).toNat = a := by
    rw [BitVec.ofInt_natCast, BitVec.toNat_ofNat]; exact Nat.mod_eq_of_lt (by omega)
  have h2 : (BitVec.ofInt 64 (b : Int)).toNat = b := by
    rw [BitVec.ofInt_natCast, BitVec.toNat_ofNat]; exact Nat.mod_eq_of_lt (by omega)
  show IntKind.i64.wrap ((BitVec.ofInt 64 (a : Int) &&& BitVec.ofInt 64 (b : Int)).toNat : Int) = _
  rw [BitVec.toNat_and, h1, h2]
  exact i64_nat (by omega)
theorem bits_or_i64_nat (a b : Nat) (ha : a < 4294967296) (hb : b < 4294967296) : bits .or .i64 (a : Int) (b : Int) = ((a ||| b : Nat) : Int) := by
  have hx : a ||| b < 2 ^ 32 := Nat.or_lt_two_pow (by omega) (by omega)
  have h1 : (BitVec.ofInt 64 (a : Int)).toNat = a := by
    rw [BitVec.ofInt_natCast, BitVec.toNat_ofNat]; exact Nat.mod_eq_of_lt (by omega)
  have h2 : (BitVec.ofInt 64 (b : Int)).toNat = b := by
    rw [BitVec.ofInt_natCast, BitVec.toNat_ofNat]; exact Nat.mod_eq_of_lt (by omega)
  show IntKind.i64.wrap ((BitVec.ofInt 64 (a : Int) ||| BitVec.ofInt 64 (b : Int)).toNat : Int) = _
  rw [BitVec.toNat_or, h1, h2]
  exact i64_nat (by omega)
theorem bits_andNot_i64_nat (a b : Nat) (ha : a < 9223372036854775808) (hb : b < 9223372036854775808) : bits .andNot .i64 (a : Int) (b : Int) = ((a &&& (18446744073709551615 - b) : Nat) : Int) := by
  have hx : a &&& (18446744073709551615 - b) ≤ a := Nat.and_le_left
  have h1 : (BitVec.ofInt 64 (a : Int)).toNat = a := by
    rw [BitVec.ofInt_natCast, BitVec.toNat_ofNat]; exact Nat.mod_eq_of_lt (by omega)
  have h2 : (BitVec.ofInt 64 (b : Int)).toNat = b := by
    rw [BitVec.ofInt_natCast, BitVec.toNat_ofNat]; exact Nat.mod_eq_of_lt (by omega)
  show IntKind.i64.wrap ((BitVec.ofInt 64 (a : Int) &&& ~~~BitVec.ofInt 64 (b : Int)).toNat : Int) = _
  rw [BitVec.toNat_and, BitVec.toNat_not, h1, h2]
  have e : 2 ^ 64 - 1 - b = 18446744073709551615 - b := by omega
  rw [e]
  exact i64_nat (by omega)
/-- a set without two of its elements -/
def restN (s i j : Nat) : Nat := s - 2 ^ i - 2 ^ j
def restAll : Bool := (List.range 256).all fun s => (List.range 8).all fun i => (List.range 8).all fun j => i == j || !s.testBit i || !s.testBit j || (s &&& (18446744073709551615 - (2 ^ i ||| 2 ^ j)) == restN s i j && decide (restN s i j < s) && (cntE (restN s i j) + 2 == cntE s) && decide (2 ^ i + 2 ^ j ≤ s))
theorem restAll_true : restAll = true := by decide +kernel
theorem rest_eq {s i j : Nat} (hs : s < 256) (hi : i < 8) (hj : j < 8) (hij : i ≠ j) (bi : s.testBit i = true) (bj : s.testBit j = true) : s &&& (18446744073709551615 - (2 ^ i ||| 2 ^ j)) = restN s i j ∧ restN s i j < s ∧ cntE (restN s i j) + 2 = cntE s ∧ 2 ^ i + 2 ^ j ≤ s := by
  have h := restAll_true
  unfold restAll at h
  have h1 := List.all_eq_true.1 (List.all_eq_true.1 (List.all_eq_true.1 h s (List.mem_range.2 hs)) i (List.mem_range.2 hi)) j (List.mem_range.2 hj)
  rw [bi, bj, show (i == j) = false from beq_eq_false_iff_ne.2 hij] at h1
  simp only [Bool.not_true, Bool.or_false, Bool.false_or, Bool.and_eq_true, beq_iff_eq, decide_eq_true_eq] at h1
  exact ⟨h1.1.1.1, h1.1.1.2, h1.1.2, h1.2⟩
def lowAll : Bool := (List.range 256).all fun s => s == 0 || (s.testBit (lowE s) && decide (lowE s < 8) && (List.range 8).all fun j => decide (lowE s ≤ j) || !s.testBit j)
theorem lowAll_true : lowAll = true := by decide +kernel
theorem low_in {s : Nat} (hs : s < 256) (h0 : s ≠ 0) : s.testBit (lowE s) = true ∧ lowE s < 8 ∧ ∀ j, j < 8 → s.testBit j = true → lowE s ≤ j := by
  have h := lowAll_true
  unfold lowAll at h
  have h1 := List.all_eq_true.1 h s (List.mem_range.2 hs)
  rw [show (s == 0) = false from beq_eq_false_iff_ne.2 h0] at h1
  simp only [Bool.false_or, Bool.and_eq_true, decide_eq_true_eq] at h1
  refine ⟨h1.1.1, h1.1.2, fun j hj hb => ?_⟩
  have h2 := List.all_eq_true.1 h1.2 j (List.mem_range.2 hj)
  rw [hb] at h2
  simpa using h2
/-- a bit as the program asks for it -/
theorem bit_of (s j : Nat) : s.testBit j = decide (s / 2 ^ j % 2 = 1) := Nat.testBit_eq_decide_div_mod_eq
theorem bit_and (q : Nat) (hq : q < 9223372036854775808) : bits .and .i64 (q : Int) 1 = ((q % 2 : Nat) : Int) := by
  have := bits_and_i64_nat q 1 hq (by decide)
  rw [Nat.and_one_is_mod] at this
  exact this
theorem div_pow (s j : Nat) : (s : Int) / 2 ^ j = ((s / 2 ^ j : Nat) : Int) := by
  rw [Int.natCast_ediv, Int.natCast_pow]; rfl
/-- the table: one step, one entry, all -/
def stepT (C : Nat → Nat → Int) (T : Nat → Int) (s i : Nat) (m : Int) (j : Nat) : Int :=
  if s.testBit j = true ∧ C i j ≠ -1 ∧ T (restN s i j) ≠ -1 ∧ (m = -1 ∨ C i j + T (restN s i j) < m) then C i j + T (restN s i j) else m
def upT (C : Nat → Nat → Int) (T : Nat → Int) (s i : Nat) : Nat → Int
  | 0 => -1
  | d + 1 => stepT C T s i (upT C T s i d) (i + 1 + d)
def entT (C : Nat → Nat → Int) (n : Nat) (T : Nat → Int) (s : Nat) : Int := if s = 0 then 0 else if cntE s % 2 = 0 then upT C T s (lowE s) (n - (lowE s + 1)) else -1
def tabL (C : Nat → Nat → Int) (n : Nat) : Nat → List Int
  | 0 => []
  | k + 1 => tabL C n k ++ [entT C n (fun r => (tabL C n k).getD r 0) k]
theorem tabL_len (C : Nat → Nat → Int) (n k : Nat) : (tabL C n k).length = k := by
  induction k with
  | zero => rfl
  | succ k ih => show (tabL C n k ++ _).length = _; rw [List.length_append, ih]; rfl
/-- the lowest cost of a set -/
def bestT (C : Nat → Nat → Int) (n s : Nat) : Int := (tabL C n (s + 1)).getD s 0
theorem tabL_get (C : Nat → Nat → Int) (n : Nat) : ∀ (k s : Nat), s < k → (tabL C n k).getD s 0 = bestT C n s := by
  intro k
  induction k with
  | zero => intro s h; omega
  | succ k ih =>
    intro s h
    by_cases hs : s = k
    · subst hs; rfl
    · have h2 : s < k := by omega
      rw [← ih s h2]
      show (tabL C n k ++ _).getD s 0 = _
      simp only [List.getD_eq_getElem?_getD]
      rw [List.getElem?_append_left (by rw [tabL_len]; exact h2)]
theorem tabL_get? (C : Nat → Nat → Int) (n : Nat) {k s : Nat} (h : s < k) : (tabL C n k)[s]? = some (bestT C n s) := by
  have h1 := tabL_get C n k s h
  rw [List.getD_eq_getElem?_getD, List.getElem?_eq_getElem (by rw [tabL_len]; exact h)] at h1
  rw [List.getElem?_eq_getElem (by rw [tabL_len]; exact h)]
  rw [← h1]; rfl
/-- an entry asks for lower sets only -/
theorem upT_congr {C : Nat → Nat → Int} {T T' : Nat → Int} {s i : Nat} (h : ∀ j, i < j → s.testBit j = true → T (restN s i j) = T' (restN s i j)) : ∀ d, upT C T s i d = upT C T' s i d := by
  intro d
  induction d with
  | zero => rfl
  | succ d ih =>
    show stepT C T s i (upT C T s i d) (i + 1 + d) = stepT C T' s i (upT C T' s i d) (i + 1 + d)
    rw [ih]
    unfold stepT
    by_cases hb : s.testBit (i + 1 + d) = true
    · rw [h _ (by omega) hb]
    · rw [if_neg (fun hh => hb hh.1), if_neg (fun hh => hb hh.1)]
theorem testBit_lt8 {s j : Nat} (hs : s < 256) (h : s.testBit j = true) : j < 8 := by
  apply Nat.lt_of_not_le
  intro h8
  have h2 : 2 ^ 8 ≤ 2 ^ j := Nat.pow_le_pow_right (show 2 > 0 by decide) h8
  have h1 : s < 2 ^ j := by omega
  rw [Nat.testBit_lt_two_pow h1] at h
  cases h
theorem bestT_eq (C : Nat → Nat → Int) (n s : Nat) (hs : s < 256) : bestT C n s = entT C n (bestT C n) s := by
  have h : bestT C n s = entT C n (fun r => (tabL C n s).getD r 0) s := by
    unfold bestT
    show (tabL C n s ++ [_]).getD s 0 = _
    rw [List.getD_eq_getElem?_getD, List.getElem?_append_right (by rw [tabL_len]; exact Nat.le_refl _), tabL_len, Nat.sub_self]
    rfl
  rw [h]
  unfold entT
  by_cases h0 : s = 0
  · rw [if_pos h0, if_pos h0]
  · rw [if_neg h0, if_neg h0]
    by_cases hc : cntE s % 2 = 0
    · rw [if_pos hc, if_pos hc]
      obtain ⟨l1, l2, l3⟩ := low_in hs h0
      exact upT_congr (fun j hj hb => tabL_get C n s _ (rest_eq hs l2 (testBit_lt8 hs hb) (by omega) l1 hb).2.1) _
    · rw [if_neg hc, if_neg hc]
/-- a block that holds a row of numbers -/
structure IRow (w : World) (B : Nat) (T : TypeId) (L : List Int) : Prop where
  row : w.heap[B]? = some (.cells (L.map (Value.int .i64)).toArray T)
section
variable {w w' : World} {B : Nat} {T : TypeId} {L : List Int}
theorem IRow.cell (h : IRow w B T L) {k : Nat} {x : Int} (hk : L[k]? = some x) : w.cell? ⟨B, k, none⟩ = some (.int .i64 x) := by
  rw [cell_of_row _ _ _ _ _ _ h.row]
  simp [hk]
theorem IRow.fr (h : IRow w B T L) (k : Nat) : w.frozen? ⟨B, k, none⟩ = false := frozen_of_row _ _ _ _ _ h.row
theorem IRow.lt (h : IRow w B T L) : B < w.heap.size := (Array.getElem?_eq_some_iff.1 h.row).1
theorem IRow.of_block (h : IRow w B T L) (hb : w'.heap[B]? = w.heap[B]?) : IRow w' B T L := ⟨hb.trans h.row⟩
theorem IRow.next (h : IRow w B T L) (hb : Below w.heap.size w w') : IRow w' B T L := h.of_block (hb.block B h.lt)
theorem IRow.other (h : IRow w B T L) {a : Addr} (hne : B ≠ a.block) (v : Value) : IRow (w.setCell a v) B T L := h.of_block (heap_setCell_other w a B v hne)
theorem IRow.set (h : IRow w B T L) (i : Nat) (x : Int) : IRow (w.setCell ⟨B, i, none⟩ (.int .i64 x)) B T (L.set i x) := by
  refine ⟨?_⟩
  rw [heap_setCell_same w B i _ T _ h.row]
  simp [List.map_set]
theorem IRow.recs (h : IRow w B T L) : RecAt iEnc 1 w w.heap.size (some ⟨B, 0, none⟩) L := by
  intro _
  refine ⟨B, 0, rfl, h.lt, fun k x hx j u hu => ?_⟩
  match j, hu with
  | 0, hu =>
    obtain rfl := Option.some.inj hu
    rw [show 0 + k * 1 + 0 = k by omega]
    exact h.cell hx
  | (j + 1), hu => simp [iEnc] at hu
end
theorem made_ints (n : Nat) : madeCells #[.int .i64 0] n = ((List.replicate n (0 : Int)).map (Value.int .i64)).toArray := by
  apply Array.ext
  · simp [size_madeCells]
  · intro i h1 h2
    simp [madeCells, Nat.mod_one]
end Go.Proofs.YtjjjdoealagpcaaDoor
