/- Layer 3: the text of a board as the reference builds it: plain laws. -/
import Derived.Test.YtjglpphfkkabnaaDoorBm
namespace Go.Proofs.YtjglpphfkkabnaaDoor
open Go.RowKit
set_option linter.unusedSimpArgs false
set_option linter.unusedVariables false

/-- the digit of a run of empty squares -/
def digB (e : Nat) : List UInt8 := if e = 0 then [] else [bx (48 + e)]
theorem digB_pos {e : Nat} (h : 0 < e) : digB e = [bx (48 + e)] := if_neg (by omega)
def bsL (L : List UInt8) : ByteArray := ⟨L.toArray⟩
theorem bsL_app (a b : List UInt8) : bsL a ++ bsL b = bsL (a ++ b) := by
  apply ba_eq
  simp [bsL]
theorem bsL_size (a : List UInt8) : (bsL a).size = a.length := rfl
theorem bsL_ne {a : List UInt8} (h : a ≠ []) : bsL a ≠ ⟨#[]⟩ := fun e => h (by have := congrArg (fun b : ByteArray => b.data.toList) e; simpa [bsL] using this)
theorem let_nodig : ∀ n : Nat, n < 31 → (n : Int) - 15 ≠ 0 → ¬ (49 ≤ (bx (PC.letV ((n : Int) - 15))).toNat ∧ (bx (PC.letV ((n : Int) - 15))).toNat ≤ 56) := by decide +kernel
theorem bx_dig : ∀ e : Nat, e < 9 → 1 ≤ e → (bx (48 + (e : Int))).toNat = 48 + e ∧ bx (48 + (e : Int)) + 1 = bx (48 + ((e + 1 : Nat) : Int)) := by decide +kernel
theorem dig_ext : ∀ e : Nat, e < 9 → 1 ≤ e → (ByteArray.mk #[48, 49, 50, 51, 52, 53, 54, 55, 56]).extract e (e + 1) = bsL (digB e) := by decide +kernel
/-- the reference's state inside a rank: what is written, and how many empty squares wait -/
structure RkI (row : List Int) (c e : Nat) (O : List UInt8) : Prop where
  eq : rkL (row.take c) = O ++ digB e
  le : e ≤ c
  last : ∀ d, O.getLast? = some d → ¬ (49 ≤ d.toNat ∧ d.toNat ≤ 56)
theorem RkI.zero (row : List Int) : RkI row 0 0 [] := ⟨rfl, Nat.le_refl _, fun d h => by cases h⟩
theorem RkI.emp {row : List Int} {c e : Nat} {O : List UInt8} (h : RkI row c e O) (hx : row[c]? = some 0) (hc : c < 8) : RkI row (c + 1) (e + 1) O := by
  refine ⟨?_, by have := h.le; omega, h.last⟩
  rw [rkL_succ hx, h.eq, digB_pos (Nat.succ_pos e)]
  rcases Nat.eq_zero_or_pos e with rfl | he
  · show rkStep (O ++ []) 0 = _
    rw [List.append_nil]
    rcases List.eq_nil_or_concat O with rfl | ⟨pre, d, rfl⟩
    · rfl
    · rw [List.concat_eq_append] at *
      rw [rkStep_new pre d (h.last d (by simp))]; rfl
  · have hle := h.le
    obtain ⟨b1, b2⟩ := bx_dig e (by omega) he
    rw [digB_pos he, rkStep_up O _ (by rw [b1]; omega), List.set_append_right _ _ (Nat.le_refl _), Nat.sub_self, b2]
    rfl
theorem RkI.put {row : List Int} {c e : Nat} {O : List UInt8} (h : RkI row c e O) {p : Int} (hx : row[c]? = some p) (hp : p ≠ 0) (p0 : -15 ≤ p) (p1 : p ≤ 15) : RkI row (c + 1) 0 (O ++ digB e ++ [bx (PC.letV p)]) := by
  refine ⟨?_, Nat.zero_le _, fun d hd => ?_⟩
  · rw [rkL_succ hx, h.eq, rkStep_let _ hp, show digB 0 = [] from rfl, List.append_nil]
  · rw [List.getLast?_concat] at hd
    obtain rfl := Option.some.inj hd
    have h9 := let_nodig (p + 15).toNat (by omega)
    rw [show (((p + 15).toNat : Nat) : Int) - 15 = p by omega] at h9
    exact h9 hp
theorem RkI.done {row : List Int} {c e : Nat} {O : List UInt8} (h : RkI row c e O) (hc : row.length ≤ c) : O ++ digB e = rkL row := by rw [← h.eq, List.take_of_length_le hc]
theorem rkL_ne {row : List Int} (h : 0 < row.length) : rkL row ≠ [] := by
  intro e
  have h1 := rkL_succ (l := row) (k := row.length - 1) (List.getElem?_eq_getElem (by omega))
  rw [show row.length - 1 + 1 = row.length by omega, List.take_length, e] at h1
  unfold rkStep at h1
  split at h1
  · split at h1
    · split at h1 <;> simp at h1
    · simp at h1
  · simp at h1
/-- the ranks from above, as the reference writes them -/
def tD (f r : Nat) (l : List Int) : Nat → List UInt8
  | 0 => []
  | j + 1 => (if j = 0 then [] else tD f r l j ++ [47]) ++ rkL (rowOf f (r - 1 - j) l)
theorem join_app (xs : List (List UInt8)) (y : List UInt8) (sep : List UInt8) (h : xs ≠ []) : Lib.join (xs ++ [y]) sep = Lib.join xs sep ++ sep ++ y := by
  rcases xs with _ | ⟨x, r⟩
  · exact absurd rfl h
  · rw [List.cons_append, Lib.join_cons, Lib.join_cons]
    unfold Lib.joinTail
    rw [List.map_append, List.flatten_append]
    simp
theorem tD_join (f r : Nat) (l : List Int) : ∀ j, tD f r l j = Lib.join ((List.range j).map fun i => rkL (rowOf f (r - 1 - i) l)) [47] := by
  intro j
  induction j with
  | zero => rfl
  | succ j ih =>
    rw [List.range_succ, List.map_append, List.map_cons, List.map_nil]
    show (if j = 0 then [] else tD f r l j ++ [47]) ++ _ = _
    split
    · rename_i h; subst h; exact (Lib.join_one _ _).symm
    · rename_i h
      rw [join_app _ _ _ (by intro e; apply h; simpa using congrArg List.length e), ih]
theorem tD_all (f r : Nat) (l : List Int) : bsL (tD f r l r) = boardT f r l := by
  unfold boardT joinS rsT
  rw [tD_join]
  show bsL _ = bsL _
  congr 2
  rw [← List.map_reverse, List.map_map]
  apply List.ext_getElem
  · simp
  · intro i h1 h2
    simp only [List.getElem_map, List.getElem_range, List.getElem_reverse, List.length_range, Function.comp_apply]
    rfl
theorem tD_ne {f r : Nat} {l : List Int} (hl : l.length = r * f) (hf : 0 < f) {j : Nat} (hj : 0 < j) (hjr : j ≤ r) : tD f r l j ≠ [] := by
  obtain ⟨k, rfl⟩ : ∃ k, j = k + 1 := ⟨j - 1, by omega⟩
  intro e
  have h : rkL (rowOf f (r - 1 - k) l) = [] := (List.append_eq_nil_iff.1 e).2
  exact rkL_ne (by rw [rowOf_len hl (by omega)]; exact hf) h
end Go.Proofs.YtjglpphfkkabnaaDoor
