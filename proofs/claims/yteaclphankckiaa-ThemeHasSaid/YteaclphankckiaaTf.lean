/- Layer 35: the reference's line of a move. -/
import Derived.Test.YteaclphankckiaaTb
namespace Go.Proofs.Yteaclphankckiaa
open Go.RowKit
set_option linter.unusedSimpArgs false
set_option linter.unusedVariables false

/-- the nodes of a line, the last one first, with their indexes -/
def ancX (p : Int) : List Nd → List (Nat × Nd)
  | [] => []
  | y :: r => if y.1 = p - 1 then (r.length, y) :: ancX (p - 1) r else ancX p r
theorem ancX_yes {p : Int} {y : Nd} {r : List Nd} (h : y.1 = p - 1) : ancX p (y :: r) = (r.length, y) :: ancX (p - 1) r := if_pos h
theorem ancX_no {p : Int} {y : Nd} {r : List Nd} (h : y.1 ≠ p - 1) : ancX p (y :: r) = ancX p r := if_neg h
theorem ancX_mv : ∀ {r : List Nd} {p : Int}, chain r → 1 ≤ p → p ≤ top r + 1 → (ancX p r).map (·.2.2) = (stk r).drop ((stk r).length - (p - 1).toNat)
  | [], p, _, h1, h2 => by
    show [] = List.drop _ []
    rw [List.drop_nil]
  | y :: r, p, hc, h1, h2 => by
    have h3 := stk_len hc
    have h4 := stk_len hc.2.2
    have h5 : 1 ≤ y.1 := hc.1
    have h6 : y.1 ≤ top r + 1 := hc.2.1
    have h7 : ((stk (y :: r)).length : Int) = y.1 := h3
    have h8 : p ≤ y.1 + 1 := h2
    by_cases hy : y.1 = p - 1
    · have ih := ancX_mv hc.2.2 h5 h6
      rw [ancX_yes hy, List.map_cons, ← hy, ih, show (stk (y :: r)).length - y.1.toNat = 0 by omega]
      rfl
    · have ih := ancX_mv (p := p) hc.2.2 h1 (by omega)
      rw [ancX_no hy, ih]
      have h9 : (stk (y :: r)).length - (p - 1).toNat = (((stk (y :: r)).length - (p - 1).toNat - 1)) + 1 := by omega
      rw [h9]
      show _ = ((stk r).drop ((stk r).length - (y.1 - 1).toNat)).drop _
      rw [List.drop_drop]
      congr 1
      omega
theorem ancX_ply : ∀ {r : List Nd} {p : Int} {d : Nat} {z : Nat × Nd}, (ancX p r)[d]? = some z → z.2.1 = p - 1 - d
  | [], p, d, z, h => by simp [ancX] at h
  | y :: r, p, d, z, h => by
    by_cases hy : y.1 = p - 1
    · rw [ancX_yes hy] at h
      cases d with
      | zero =>
        obtain rfl : (r.length, y) = z := by simpa using h
        show y.1 = _
        rw [hy]; simp
      | succ d =>
        rw [List.getElem?_cons_succ] at h
        have := ancX_ply h
        omega
    · rw [ancX_no hy] at h
      exact ancX_ply h
theorem ancX_at : ∀ {r : List Nd} {p : Int} {z : Nat × Nd}, z ∈ ancX p r → r.reverse[z.1]? = some z.2
  | [], p, z, h => by simp [ancX] at h
  | y :: r, p, z, h => by
    have hstep : ∀ {q : Int}, z ∈ ancX q r → (y :: r).reverse[z.1]? = some z.2 := fun {q} h2 => by
      have h3 := ancX_at h2
      rw [List.reverse_cons, List.getElem?_append_left (List.getElem?_eq_some_iff.1 h3).1]
      exact h3
    by_cases hy : y.1 = p - 1
    · rw [ancX_yes hy] at h
      rcases List.mem_cons.1 h with rfl | h
      · show (y :: r).reverse[r.length]? = some y
        rw [List.reverse_cons, List.getElem?_append_right (by simp), List.length_reverse, Nat.sub_self]
        rfl
      · exact hstep h
    · rw [ancX_no hy] at h
      exact hstep h
/-- the indexes of the line of the i-th node, from its beginning on -/
def lineI (t : List Nd) (i : Nat) (p : Int) : List Int := ((i : Int) :: (ancX p (back t i)).map fun z => (z.1 : Int)).reverse
/-- the moves of that line -/
def lineM (t : List Nd) (i : Nat) (x : Nd) : List Mv := ((ancX x.1 (back t i)).map (·.2.2)).reverse
theorem lineM_stk {t : List Nd} {i : Nat} {x : Nd} (hx : t[i]? = some x) (hc : chain (back t (i + 1))) : stk (back t (i + 1)) = x.2 :: dn (lineM t i x) (lineM t i x).length := by
  rw [back_succ hx] at hc ⊢
  have h := ancX_mv (r := back t i) (p := x.1) hc.2.2 hc.1 hc.2.1
  rw [dn_all]
  unfold lineM
  rw [List.reverse_reverse, h]
  rfl
theorem lineM_pth {t : List Nd} {i : Nat} {x : Nd} (hx : t[i]? = some x) (hc : chain (back t (i + 1))) : pth (back t (i + 1)) = (x.2.2.1 :: x.2.1 :: foll false x.2.1 (dn (lineM t i x) (lineM t i x).length)).reverse := by
  unfold pth
  rw [lineM_stk hx hc]
  rfl
theorem lineM_len {t : List Nd} {i : Nat} {x : Nd} (hx : t[i]? = some x) (hc : chain (back t (i + 1))) : ((lineM t i x).length : Int) = x.1 - 1 := by
  have h := lineM_stk hx hc
  have h2 := stk_len hc
  have h3 : top (back t (i + 1)) = x.1 := by rw [back_succ hx]; rfl
  rw [h, List.length_cons, dn_len (Nat.le_refl _), h3] at h2
  omega
theorem lineI_len (t : List Nd) (i : Nat) (x : Nd) : (lineI t i x.1).length = (lineM t i x).length + 1 := by
  unfold lineI lineM
  rw [List.length_reverse, List.length_cons, List.length_map, List.length_reverse, List.length_map]
/-- an index of the line, before the last one -/
theorem lineI_at {t : List Nd} {i k : Nat} {x : Nd} {m : Mv} (hl : i ≤ t.length) (hk : (lineM t i x)[k]? = some m) (hp : ((lineM t i x).length : Int) = x.1 - 1) : ∃ a : Nat, (lineI t i x.1)[k]? = some (a : Int) ∧ a < i ∧ t[a]? = some ((k : Int) + 1, m) := by
  have hkl : k < (lineM t i x).length := (List.getElem?_eq_some_iff.1 hk).1
  have hn : (lineM t i x).length = (ancX x.1 (back t i)).length := by unfold lineM; rw [List.length_reverse, List.length_map]
  have hk2 : k < (ancX x.1 (back t i)).reverse.length := by rw [List.length_reverse]; omega
  obtain ⟨z, hz⟩ : ∃ z, (ancX x.1 (back t i)).reverse[k]? = some z := ⟨_, List.getElem?_eq_getElem hk2⟩
  have hm : z.2.2 = m := by
    have h1 : (lineM t i x)[k]? = some z.2.2 := by unfold lineM; rw [← List.map_reverse, List.getElem?_map, hz]; rfl
    exact Option.some.inj (h1.symm.trans hk)
  have hz2 : (ancX x.1 (back t i))[(ancX x.1 (back t i)).length - 1 - k]? = some z := by
    rw [List.getElem?_reverse (by omega)] at hz
    exact hz
  have hply := ancX_ply hz2
  have hat := ancX_at (List.mem_of_getElem? hz2)
  have hb : (back t i).reverse = t.take i := by unfold back; rw [List.reverse_reverse]
  rw [hb] at hat
  have hai : z.1 < i := by
    have := (List.getElem?_eq_some_iff.1 hat).1
    rw [List.length_take] at this
    omega
  rw [List.getElem?_take, if_pos hai] at hat
  refine ⟨z.1, ?_, hai, ?_⟩
  · unfold lineI
    rw [List.reverse_cons, List.getElem?_append_left (by rw [List.length_reverse, List.length_map]; omega), ← List.map_reverse, List.getElem?_map, hz]
    rfl
  · rw [hat]
    congr 1
    refine Prod.ext ?_ hm
    show z.2.1 = _
    omega
end Go.Proofs.Yteaclphankckiaa
