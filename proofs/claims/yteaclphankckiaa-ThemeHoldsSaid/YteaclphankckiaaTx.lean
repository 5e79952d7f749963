/- Layer 35: the reference's Fits. -/
import Derived.Test.YteaclphankckiaaTw
import Derived.Deep.RegionHeld3
namespace Go.Proofs.Yteaclphankckiaa
open Go.RowKit
set_option linter.unusedSimpArgs false
set_option linter.unusedVariables false

/-- plies from 1 on that rise by one at most -/
def chain : List Nd → Prop
  | [] => True
  | y :: r => 1 ≤ y.1 ∧ y.1 ≤ top r + 1 ∧ chain r
theorem okK_chain {f q : Int} {t : List Nd} {n : Nat} (hb : okK f q t n = true) : ∀ {k : Nat}, k ≤ n → chain (back t k) := by
  intro k
  induction k with
  | zero => intro _; rw [back_zero]; exact trivial
  | succ k ih =>
    intro hk
    cases hx : t[k]? with
    | none =>
      have : back t (k + 1) = back t k := by
        unfold back
        rw [List.take_add_one, hx]; simp
      rw [this]
      exact ih (by omega)
    | some x =>
      obtain ⟨_, h3, h4, _⟩ := nodeB_out (okK_at hb (by omega) hx)
      rw [back_succ hx]
      exact ⟨h3, h4, ih (by omega)⟩
def dw (p : Int) (r : List Nd) : List Nd := r.dropWhile fun y => decide (p ≤ y.1)
def tw (p : Int) (r : List Nd) : List Nd := r.takeWhile fun y => decide (p ≤ y.1)
theorem tw_dw (p : Int) (r : List Nd) : tw p r ++ dw p r = r := List.takeWhile_append_dropWhile
theorem app_drop {a b c : List Nd} (h : a ++ b = c) : c.drop a.length = b := by rw [← h, List.drop_left]
theorem app_take {a b c : List Nd} (h : a ++ b = c) : c.take a.length = a := by rw [← h, List.take_left]
theorem tw_mem {p : Int} : ∀ {r : List Nd} {y : Nd}, y ∈ tw p r → p ≤ y.1
  | [], y, h => by cases h
  | z :: r, y, h => by
    unfold tw at h
    by_cases hz : p ≤ z.1
    · rw [List.takeWhile_cons_of_pos (by simpa using hz)] at h
      rcases List.mem_cons.1 h with rfl | h
      · exact hz
      · exact tw_mem (r := r) h
    · rw [List.takeWhile_cons_of_neg (by simpa using hz)] at h
      cases h
theorem bef_dw (p : Int) : ∀ r : List Nd, bef p r = ((dw p r).length : Int) - 1
  | [] => rfl
  | y :: r => by
    by_cases h : y.1 < p
    · rw [bef_yes h]
      unfold dw
      rw [List.dropWhile_cons_of_neg (by simp; omega), List.length_cons]
      omega
    · rw [bef_no h, bef_dw p r]
      unfold dw
      rw [List.dropWhile_cons_of_pos (by simp; omega)]
theorem top_dw {p : Int} (hp : 1 ≤ p) : ∀ {r : List Nd}, chain r → p ≤ top r + 1 → top (dw p r) = p - 1
  | [], _, h => by
    have h2 : p ≤ 0 + 1 := h
    show (0 : Int) = _
    omega
  | y :: r, hc, h => by
    have h2 : p ≤ y.1 + 1 := h
    by_cases hy : y.1 < p
    · unfold dw
      rw [List.dropWhile_cons_of_neg (by simp; omega)]
      show y.1 = _
      omega
    · have h3 := top_dw hp hc.2.2 (by have := hc.2.1; omega)
      unfold dw at h3 ⊢
      rw [List.dropWhile_cons_of_pos (by simp; omega)]
      exact h3
theorem back_drop {t : List Nd} {i n : Nat} (hi : i ≤ t.length) (hn : n ≤ i) : (back t i).drop (i - n) = back t n := by
  unfold back
  rw [List.drop_reverse, List.length_take, Nat.min_eq_left hi, List.take_take]
  congr 2
  omega
theorem dw_back {t : List Nd} {i : Nat} (p : Int) (hi : i ≤ t.length) : (dw p (back t i)).length ≤ i ∧ dw p (back t i) = back t (dw p (back t i)).length := by
  have h1 := congrArg List.length (tw_dw p (back t i))
  rw [List.length_append, back_length hi] at h1
  have h2 : (dw p (back t i)).length ≤ i := by omega
  refine ⟨h2, ?_⟩
  rw [← back_drop hi h2]
  have h3 : (back t i).drop (tw p (back t i)).length = dw p (back t i) := app_drop (tw_dw p (back t i))
  rw [show i - (dw p (back t i)).length = (tw p (back t i)).length by omega, h3]
theorem tw_seg {t : List Nd} {i : Nat} (p : Int) (hi : i ≤ t.length) : tw p (back t i) = ((t.take i).drop (dw p (back t i)).length).reverse := by
  have h1 := congrArg List.length (tw_dw p (back t i))
  rw [List.length_append, back_length hi] at h1
  have h3 : (back t i).take (tw p (back t i)).length = tw p (back t i) := app_take (tw_dw p (back t i))
  rw [← h3]
  show ((t.take i).reverse).take _ = _
  rw [List.take_reverse, List.length_take, Nat.min_eq_left hi]
  congr 2
  omega
/-- the move at an index -/
def mvAt (t : List Nd) (a : Int) : Mv := (t.getD a.toNat (0, 0, 0, 0)).2
theorem mvAt_get {t : List Nd} {k : Nat} {x : Nd} (h : t[k]? = some x) : mvAt t (k : Int) = x.2 := by
  unfold mvAt
  rw [Int.toNat_natCast, List.getD_eq_getElem?_getD, h]; rfl
theorem aft_map {t : List Nd} {P : Int} : ∀ (seg : List Nd) (k : Nat), (∀ (j : Nat) (x : Nd), seg[j]? = some x → t[k + j]? = some x) → (∀ y ∈ seg, P < y.1) → (aft P seg k).map (mvAt t) = (seg.filter fun y => decide (y.1 = P + 1)).map (·.2)
  | [], _, _, _ => rfl
  | y :: r, k, hs, ha => by
    have h0 : t[k]? = some y := hs 0 y rfl
    have ih := aft_map (t := t) (P := P) r (k + 1) (fun j x hj => by have := hs (j + 1) x hj; rwa [show k + (j + 1) = k + 1 + j by omega] at this) (fun z hz => ha z (List.mem_cons_of_mem _ hz))
    have hy := ha y (List.mem_cons_self)
    by_cases e : y.1 = P + 1
    · rw [aft_one e, List.map_cons, ih, mvAt_get h0, List.filter_cons_of_pos (by simpa using e), List.map_cons]
    · rw [aft_skip hy e, ih, List.filter_cons_of_neg (by simpa using e)]
theorem aft_idx {P : Int} : ∀ (seg : List Nd) (k : Nat), ∀ a ∈ aft P seg k, ∃ j : Nat, a = (j : Int) ∧ k ≤ j ∧ j < k + seg.length
  | [], _, a, h => by simp [aft] at h
  | y :: r, k, a, h => by
    unfold aft at h
    split at h
    · rcases List.mem_append.1 h with h | h
      · split at h
        · obtain rfl := List.mem_singleton.1 h
          exact ⟨k, rfl, Nat.le_refl _, by rw [List.length_cons]; omega⟩
        · simp at h
      · obtain ⟨j, h1, h2, h3⟩ := aft_idx r (k + 1) a h
        exact ⟨j, h1, by omega, by rw [List.length_cons]; omega⟩
    · simp at h
/-- the moves beside a node are those that After gives -/
theorem sibs_aft {t : List Nd} {i : Nat} {p : Int} (hi : i ≤ t.length) (hp : 1 ≤ p) (hc : chain (back t i)) (ht : p ≤ top (back t i) + 1) (m : Mv) :
    m ∈ sibs (back t i) p ↔ m ∈ (aft (p - 1) ((t.take i).drop (dw p (back t i)).length) (dw p (back t i)).length).map (mvAt t) := by
  have hseg := tw_seg p hi
  have hall : ∀ y ∈ (t.take i).drop (dw p (back t i)).length, p - 1 < y.1 := fun y hy => by
    have h1 : y ∈ tw p (back t i) := by rw [hseg, List.mem_reverse]; exact hy
    have h3 := tw_mem h1
    omega
  rw [aft_map _ _ (fun j x hj => by
    rw [List.getElem?_drop, List.getElem?_take] at hj
    split at hj
    · exact hj
    · cases hj) hall]
  have h4 : sibs (back t i) p = ((tw p (back t i)).filter fun y => decide (y.1 = p)).map (·.2) := rfl
  rw [h4, hseg, show p - 1 + 1 = p by omega]
  simp only [List.filter_reverse, List.map_reverse, List.mem_reverse]
end Go.Proofs.Yteaclphankckiaa
