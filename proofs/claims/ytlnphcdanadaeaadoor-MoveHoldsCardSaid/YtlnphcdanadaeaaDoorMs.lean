/- Layer 7: plain laws: a line's words, and back. -/
import Derived.Test.YtlnphcdanadaeaaDoorMp
namespace Go.Proofs.YtlnphcdanadaeaaDoor
open Go.RowKit
set_option linter.unusedSimpArgs false
set_option linter.unusedVariables false

theorem wls_app : ∀ (x l : List UInt8), (∀ c, c ∈ x → c ≠ 32) → wls (x ++ l) = (wls l).modifyHead (x ++ ·)
  | [], l, _ => by
    obtain ⟨h, r, e⟩ := wls_cons l
    simp [e]
  | c :: x, l, hx => by
    obtain ⟨h, r, e⟩ := wls_cons l
    have hc : c ≠ 32 := hx c (by simp)
    have ih := wls_app x l (fun d hd => hx d (by simp [hd]))
    rw [e] at ih
    show wls (c :: (x ++ l)) = _
    simp [wls, hc, ih, e]
/-- a line's words are the words that it was joined of -/
theorem wls_join : ∀ (xs : List (List UInt8)), xs ≠ [] → (∀ x, x ∈ xs → ∀ c, c ∈ x → c ≠ 32) → wls (Lib.join xs [32]) = xs
  | [], h, _ => absurd rfl h
  | [x], _, hx => by
    have := wls_app x [] (hx x (by simp))
    rw [List.append_nil] at this
    simp [Lib.join, List.intercalate, this, wls]
  | x :: y :: l, _, hx => by
    have ih := wls_join (y :: l) (by simp) (fun z hz => hx z (by simp [hz]))
    have e : Lib.join (x :: y :: l) [32] = x ++ 32 :: Lib.join (y :: l) [32] := by simp [Lib.join, List.intercalate]
    rw [e, wls_app x _ (hx x (by simp))]
    simp [wls, ih]
/-- and back: a text is its words, joined -/
theorem join_wls : ∀ l : List UInt8, Lib.join (wls l) [32] = l
  | [] => by simp [wls, Lib.join, List.intercalate]
  | c :: t => by
    have ih := join_wls t
    obtain ⟨h, r, e⟩ := wls_cons t
    rw [e] at ih
    by_cases hc : c = 32
    · subst hc
      have e2 : Lib.join ([] :: h :: r) [32] = 32 :: Lib.join (h :: r) [32] := by simp [Lib.join, List.intercalate]
      simp only [wls, if_true, e]
      rw [e2, ih]
    · simp only [wls, hc, if_false, e, List.modifyHead_cons]
      cases r with
      | nil => simpa [Lib.join, List.intercalate] using ih
      | cons y r =>
        have e3 : ∀ z : List UInt8, Lib.join (z :: y :: r) [32] = z ++ 32 :: Lib.join (y :: r) [32] := fun z => by simp [Lib.join, List.intercalate]
        rw [e3] at ih ⊢
        rw [List.cons_append, ih]
theorem words_data (s : ByteArray) : (wordsB s).map (·.data.toList) = wls s.data.toList := by
  unfold wordsB
  rw [Lib.splitB_data]
  exact splitK_all s.data.toList
theorem words_joinB (xs : List ByteArray) (h : xs ≠ []) (hx : ∀ x, x ∈ xs → ∀ c, c ∈ x.data.toList → c ≠ 32) : wordsB (joinB xs) = xs := by
  have hi : ∀ x y : ByteArray, x.data.toList = y.data.toList → x = y := fun x y h => ba_eq h
  refine (List.map_inj_right hi).1 ?_
  rw [words_data]
  show wls (Lib.join (xs.map (·.data.toList)) [32]) = _
  refine wls_join _ (by simpa using h) fun x hm => ?_
  obtain ⟨y, hy, rfl⟩ := List.mem_map.1 hm
  exact hx y hy
theorem joinB_words (s : ByteArray) : joinB (wordsB s) = s := by
  apply ba_eq
  show Lib.join ((wordsB s).map (·.data.toList)) [32] = _
  rw [words_data, join_wls]
/-- Compare: the order turned round; equal moves; no rise over two steps -/
theorem ordV_neg (x y : Int) : ordV x y = - ordV y x := by unfold ordV; repeat' split
                                                           all_goals omega
theorem cmpV_neg (a b p a' b' p' : Int) : cmpV a b p a' b' p' = - cmpV a' b' p' a b p := by
  unfold cmpV
  repeat' split
  all_goals first | exact ordV_neg _ _ | omega
theorem cmpV_zero (a b p a' b' p' : Int) : cmpV a b p a' b' p' = 0 ↔ a = a' ∧ b = b' ∧ p = p' := by
  unfold cmpV ordV
  repeat' split
  all_goals omega
theorem cmpV_pos (a b p a' b' p' : Int) : cmpV a b p a' b' p' > 0 ↔ (a' < a ∨ (a = a' ∧ (b' < b ∨ (b = b' ∧ p' < p)))) := by
  unfold cmpV ordV
  repeat' split
  all_goals omega
theorem cmpV_trans (a b p a' b' p' a2 b2 p2 : Int) : cmpV a b p a' b' p' > 0 ∨ cmpV a' b' p' a2 b2 p2 > 0 ∨ cmpV a b p a2 b2 p2 ≤ 0 := by
  have h1 := cmpV_pos a b p a' b' p'
  have h2 := cmpV_pos a' b' p' a2 b2 p2
  have h3 := cmpV_pos a b p a2 b2 p2
  omega
end Go.Proofs.YtlnphcdanadaeaaDoor
