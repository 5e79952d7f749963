/- Layer 7: the reference's words of a text are those of strings.Split. -/
import Derived.Test.YtlnphcdanadaeaaDoorMo
namespace Go.Proofs.YtlnphcdanadaeaaDoor
open Go.RowKit
set_option linter.unusedSimpArgs false
set_option linter.unusedVariables false

/-- bytes parted at blanks -/
def wls : List UInt8 → List (List UInt8)
  | [] => [[]]
  | c :: t => if c = 32 then [] :: wls t else (wls t).modifyHead (c :: ·)
theorem wls_cons : ∀ l : List UInt8, ∃ h r, wls l = h :: r
  | [] => ⟨[], [], rfl⟩
  | c :: t => by
    obtain ⟨h, r, e⟩ := wls_cons t
    by_cases hc : c = 32
    · exact ⟨[], wls t, by simp [wls, hc]⟩
    · exact ⟨c :: h, r, by simp [wls, hc, e]⟩
theorem idx_blank (t : List UInt8) : Lib.index (32 :: t) [32] = 0 := by rw [Lib.index]; simp [List.isPrefixOf]
theorem idx_byte (c : UInt8) (t : List UInt8) (h : c ≠ 32) : Lib.index (c :: t) [32] = if Lib.index t [32] == -1 then -1 else Lib.index t [32] + 1 := by
  have hp : ([32] : List UInt8).isPrefixOf (c :: t) = false := by simp [List.isPrefixOf, Ne.symm h]
  rw [Lib.index, hp]; simp
theorem splitK_blank (t : List UInt8) (k : Nat) : Lib.splitK [32] 0 (k + 1) (32 :: t) = [] :: Lib.splitK [32] 0 k t := by
  rw [Lib.splitK, idx_blank]
  simp
theorem splitK_byte (c : UInt8) (h : c ≠ 32) (t : List UInt8) : ∀ k : Nat, Lib.splitK [32] 0 k (c :: t) = (Lib.splitK [32] 0 k t).modifyHead (c :: ·)
  | 0 => rfl
  | k + 1 => by
    rw [Lib.splitK, Lib.splitK, idx_byte c t h]
    by_cases hm : Lib.index t [32] = -1
    · simp [hm]
    · have hge := Lib.index_ge t [32]
      obtain ⟨j, hj⟩ : ∃ j : Nat, Lib.index t [32] = j := ⟨(Lib.index t [32]).toNat, by omega⟩
      have h1 : ((j : Int) == -1) = false := by rw [beq_eq_false_iff_ne]; omega
      have h2 : ((j : Int) + 1 == -1) = false := by rw [beq_eq_false_iff_ne]; omega
      have h3 : ((j : Int) + 1).toNat = j + 1 := by omega
      rw [hj, h1]
      simp only [Bool.false_eq_true, if_false, h2, h3, Int.toNat_natCast, List.length_cons, List.length_nil, Nat.add_zero, List.modifyHead_cons, List.take_succ_cons]
      rfl
theorem splitK_all : ∀ l : List UInt8, Lib.splitK [32] 0 (Lib.count l [32]) l = wls l
  | [] => by rw [Lib.count_miss (by simp [Lib.index])]; rfl
  | c :: t => by
    by_cases h : c = 32
    · subst h
      rw [Lib.count_cons_eq, Nat.add_comm, splitK_blank, splitK_all t]
      simp [wls]
    · rw [Lib.count_cons_ne _ _ _ h, splitK_byte c h, splitK_all t]
      simp [wls, h]
theorem foldl_wls : ∀ (l : List UInt8) (pre : List ByteArray) (x : ByteArray), (l.foldl nextW (pre ++ [x])).map (·.data.toList) = pre.map (·.data.toList) ++ (wls l).modifyHead (x.data.toList ++ ·)
  | [], pre, x => by simp [wls]
  | c :: t, pre, x => by
    obtain ⟨h, r, e⟩ := wls_cons t
    rw [List.foldl_cons]
    by_cases hc : c = 32
    · subst hc
      rw [nextW_blank, foldl_wls t (pre ++ [x]) ⟨#[]⟩]
      simp [wls, e]
    · rw [nextW_byte pre x hc, foldl_wls t pre (x ++ ⟨#[c]⟩)]
      simp [wls, hc, e]
theorem words_same (s : ByteArray) : wlT s s.size = wordsB s := by
  have hi : ∀ x y : ByteArray, x.data.toList = y.data.toList → x = y := fun x y h => ba_eq h
  refine (List.map_inj_right hi).1 ?_
  unfold wlT wl wordsB
  rw [List.take_of_length_le (by rw [Array.length_toList]; exact Nat.le_refl _)]
  have h1 := foldl_wls s.data.toList [] ⟨#[]⟩
  rw [List.nil_append] at h1
  rw [h1, Lib.splitB_data]
  obtain ⟨h, r, e⟩ := wls_cons s.data.toList
  have h2 : Lib.splitK sp.data.toList 0 (Lib.countB s sp) s.data.toList = wls s.data.toList := splitK_all s.data.toList
  rw [h2, e]
  simp
end Go.Proofs.YtlnphcdanadaeaaDoor
