/- Layer 35, plain: lines of a tree, and the path of the piece that makes a move. -/
import Derived.Test.YteaclphankckiaaTx
namespace Go.Proofs.Yteaclphankckiaa
open Go.RowKit
set_option linter.unusedSimpArgs false
set_option linter.unusedVariables false

/-- the line of the last node (nodes and moves stand the last one first) -/
def stk : List Nd → List Mv
  | [] => []
  | x :: r => x.2 :: (stk r).drop ((stk r).length - (x.1 - 1).toNat)
theorem stk_len : ∀ {r : List Nd}, chain r → ((stk r).length : Int) = top r
  | [], _ => rfl
  | x :: r, h => by
    have ih := stk_len h.2.2
    have h1 : 1 ≤ x.1 := h.1
    have h2 : x.1 ≤ top r + 1 := h.2.1
    show ((x.2 :: (stk r).drop ((stk r).length - (x.1 - 1).toNat)).length : Int) = x.1
    rw [List.length_cons, List.length_drop]
    omega
/-- where a piece came from: the squares before it, the last one first -/
def foll (own : Bool) (sq : Int) : List Mv → List Int
  | [] => []
  | m :: l => if m.2.1 = sq then (if own then m.1 :: foll false m.1 l else []) else foll (!own) sq l
/-- which move (by its place from the beginning) brought a piece, or -1 -/
def bix (own : Bool) (sq : Int) : List Mv → Int
  | [] => -1
  | m :: l => if m.2.1 = sq then (if own then (l.length : Int) else -1) else bix (!own) sq l
theorem foll_other {own : Bool} {sq : Int} {m : Mv} {l : List Mv} (h : m.2.1 ≠ sq) : foll own sq (m :: l) = foll (!own) sq l := if_neg h
theorem foll_own {sq : Int} {m : Mv} {l : List Mv} (h : m.2.1 = sq) : foll true sq (m :: l) = m.1 :: foll false m.1 l := if_pos h
theorem foll_end {sq : Int} {m : Mv} {l : List Mv} (h : m.2.1 = sq) : foll false sq (m :: l) = [] := if_pos h
theorem bix_other {own : Bool} {sq : Int} {m : Mv} {l : List Mv} (h : m.2.1 ≠ sq) : bix own sq (m :: l) = bix (!own) sq l := if_neg h
theorem bix_own {sq : Int} {m : Mv} {l : List Mv} (h : m.2.1 = sq) : bix true sq (m :: l) = (l.length : Int) := if_pos h
theorem bix_end {sq : Int} {m : Mv} {l : List Mv} (h : m.2.1 = sq) : bix false sq (m :: l) = -1 := if_pos h
theorem bix_bd (sq : Int) : ∀ (l : List Mv) (own : Bool), -1 ≤ bix own sq l ∧ bix own sq l < (l.length : Int)
  | [], _ => ⟨Int.le_refl _, by show (-1 : Int) < 0; decide⟩
  | m :: l, own => by
    have := bix_bd sq l (!own)
    unfold bix
    rw [List.length_cons]
    split
    · split <;> omega
    · omega
theorem foll_len (sq : Int) : ∀ (l : List Mv) (own : Bool), (foll own sq l).length ≤ l.length
  | [], _ => Nat.le_refl _
  | m :: l, own => by
    have h1 := foll_len sq l (!own)
    have h2 := foll_len m.1 l false
    unfold foll
    rw [List.length_cons]
    split
    · split
      · rw [List.length_cons]; omega
      · simp
    · omega
/-- the first k of a row of moves, the last one first -/
def dn (L : List Mv) (k : Nat) : List Mv := (L.take k).reverse
theorem dn_zero (L : List Mv) : dn L 0 = [] := by simp [dn]
theorem dn_succ {L : List Mv} {k : Nat} {m : Mv} (h : L[k]? = some m) : dn L (k + 1) = m :: dn L k := by
  unfold dn
  rw [List.take_add_one, h, List.reverse_append]; rfl
theorem dn_len {L : List Mv} {k : Nat} (h : k ≤ L.length) : (dn L k).length = k := by simp [dn]; omega
theorem dn_all (L : List Mv) : dn L L.length = L.reverse := by simp [dn]
/-- by the place of the move that brought the piece, the squares before it -/
theorem foll_bix {L : List Mv} (sq : Int) : ∀ (k : Nat) (own : Bool), k ≤ L.length → bix own sq (dn L k) = -1 ∧ foll own sq (dn L k) = [] ∨
    ∃ (j : Nat) (m : Mv), j < k ∧ L[j]? = some m ∧ bix own sq (dn L k) = (j : Int) ∧ foll own sq (dn L k) = m.1 :: foll false m.1 (dn L j)
  | 0, own, _ => by rw [dn_zero]; exact .inl ⟨rfl, rfl⟩
  | k + 1, own, hk => by
    obtain ⟨m, hm⟩ : ∃ m, L[k]? = some m := ⟨_, List.getElem?_eq_getElem (by omega)⟩
    have hl := dn_len (L := L) (k := k) (by omega)
    rw [dn_succ hm]
    by_cases h : m.2.1 = sq
    · cases own with
      | true => rw [bix_own h, foll_own h, hl]; exact .inr ⟨k, m, by omega, hm, rfl, rfl⟩
      | false => rw [bix_end h, foll_end h]; exact .inl ⟨rfl, rfl⟩
    · rw [bix_other h, foll_other h]
      rcases foll_bix (L := L) sq k (!own) (by omega) with h2 | ⟨j, m', h2, h3, h4, h5⟩
      · exact .inl h2
      · exact .inr ⟨j, m', by omega, h3, h4, h5⟩
/-- the path of the last move of a line, its end first -/
def pthR : List Mv → List Int
  | [] => []
  | m :: l => m.2.1 :: m.1 :: foll false m.1 l
/-- the path of the last node -/
def pth (r : List Nd) : List Int := (pthR (stk r)).reverse
theorem pth_cons (x : Nd) (r : List Nd) : pth (x :: r) = (x.2.2.1 :: x.2.1 :: foll false x.2.1 ((stk r).drop ((stk r).length - (x.1 - 1).toNat))).reverse := rfl
theorem pth_len {r : List Nd} (hc : chain r) (h0 : r ≠ []) : 2 ≤ (pth r).length ∧ ((pth r).length : Int) ≤ top r + 1 := by
  cases r with
  | nil => exact absurd rfl h0
  | cons x r =>
    have h1 := stk_len hc
    have h2 : (stk (x :: r)).length = ((stk r).drop ((stk r).length - (x.1 - 1).toNat)).length + 1 := rfl
    have h3 := foll_len x.2.1 ((stk r).drop ((stk r).length - (x.1 - 1).toNat)) false
    rw [pth_cons, List.length_reverse, List.length_cons, List.length_cons]
    omega
/-- a row of traces: moves, and which one brought the piece -/
abbrev Tr := Mv × Int
def mvs (L : List Tr) : List Mv := L.map (·.1)
def okTr (L : List Tr) : Prop := ∀ (k : Nat) (e : Tr), L[k]? = some e → e.2 = bix false e.1.1 (dn (mvs L) k)
theorem mvs_len (L : List Tr) : (mvs L).length = L.length := List.length_map ..
theorem mvs_get {L : List Tr} {k : Nat} {e : Tr} (h : L[k]? = some e) : (mvs L)[k]? = some e.1 := by unfold mvs; rw [List.getElem?_map, h]; rfl
theorem mvs_take (L : List Tr) (n : Nat) : mvs (L.take n) = (mvs L).take n := by unfold mvs; rw [List.map_take]
theorem dn_take {L : List Mv} {n k : Nat} (h : k ≤ n) : dn (L.take n) k = dn L k := by unfold dn; rw [List.take_take, Nat.min_eq_left h]
theorem dn_app {L : List Mv} {m : Mv} {k : Nat} (h : k ≤ L.length) : dn (L ++ [m]) k = dn L k := by unfold dn; rw [List.take_append_of_le_length h]
theorem okTr_take {L : List Tr} (h : okTr L) (n : Nat) : okTr (L.take n) := by
  intro k e hk
  have hk2 : k < n := by
    have := (List.getElem?_eq_some_iff.1 hk).1
    rw [List.length_take] at this
    omega
  rw [List.getElem?_take, if_pos hk2] at hk
  rw [mvs_take, dn_take (by omega)]
  exact h k e hk
theorem okTr_app {L : List Tr} {m : Mv} (h : okTr L) : okTr (L ++ [(m, bix false m.1 (mvs L).reverse)]) := by
  intro k e hk
  have hm : mvs (L ++ [(m, bix false m.1 (mvs L).reverse)]) = mvs L ++ [m] := by unfold mvs; rw [List.map_append]; rfl
  have hl := mvs_len L
  rw [hm]
  by_cases hkl : k < L.length
  · rw [List.getElem?_append_left hkl] at hk
    rw [dn_app (by omega)]
    exact h k e hk
  · have hk2 : k = L.length := by
      have := (List.getElem?_eq_some_iff.1 hk).1
      rw [List.length_append, List.length_cons, List.length_nil] at this
      omega
    subst hk2
    rw [List.getElem?_append_right (Nat.le_refl _), Nat.sub_self] at hk
    obtain rfl : (m, bix false m.1 (mvs L).reverse) = e := by simpa using hk
    rw [dn_app (by omega), ← hl, dn_all]
/-- the row of traces after the nodes r -/
def isTr (r : List Nd) (L : List Tr) : Prop := (mvs L).reverse = stk r ∧ okTr L
theorem isTr_nil : isTr [] [] := ⟨rfl, fun k e h => by simp at h⟩
theorem isTr_len {r : List Nd} {L : List Tr} (hc : chain r) (h : isTr r L) : (L.length : Int) = top r := by
  have h1 := stk_len hc
  rw [← h.1, List.length_reverse, mvs_len] at h1
  exact h1
/-- the row, cut at the ply of a node -/
theorem isTr_cut {r : List Nd} {L : List Tr} {x : Nd} (h : isTr r L) : (mvs (L.take (x.1 - 1).toNat)).reverse = (stk r).drop ((stk r).length - (x.1 - 1).toNat) := by
  rw [← h.1, mvs_take, List.length_reverse, List.drop_reverse]
  congr 1
  by_cases hn : (x.1 - 1).toNat ≤ (mvs L).length
  · congr 1; omega
  · rw [List.take_of_length_le (by omega), List.take_of_length_le (by omega)]
theorem isTr_step {r : List Nd} {L : List Tr} {x : Nd} (h : isTr r L) : isTr (x :: r) (L.take (x.1 - 1).toNat ++ [(x.2, bix false x.2.1 (mvs (L.take (x.1 - 1).toNat)).reverse)]) := by
  refine ⟨?_, okTr_app (okTr_take h.2 _)⟩
  have h2 := isTr_cut (x := x) h
  show (mvs (L.take (x.1 - 1).toNat ++ [(x.2, _)])).reverse = x.2 :: (stk r).drop ((stk r).length - (x.1 - 1).toNat)
  rw [← h2]
  unfold mvs
  rw [List.map_append, List.reverse_append]
  rfl
/-- what of a path is still to be found, from the m-th move (counted from 1; 0: nothing) on -/
def restP (L : List Tr) : Nat → List Int
  | 0 => []
  | m + 1 => match (mvs L)[m]? with
    | some e => e.1 :: foll false e.1 (dn (mvs L) m)
    | none => []
theorem restP_at {L : List Tr} {m : Nat} {e : Tr} (h : L[m]? = some e) : restP L (m + 1) = e.1.1 :: foll false e.1.1 (dn (mvs L) m) := by
  have h2 := mvs_get h
  show (match (mvs L)[m]? with | some e => e.1 :: foll false e.1 (dn (mvs L) m) | none => []) = _
  rw [h2]
theorem restP_step {L : List Tr} {m : Nat} {e : Tr} (ho : okTr L) (h : L[m]? = some e) : ∃ m1, m1 ≤ m ∧ e.2 = (m1 : Int) - 1 ∧ restP L (m + 1) = e.1.1 :: restP L m1 := by
  have hm : m < L.length := (List.getElem?_eq_some_iff.1 h).1
  have h2 := ho m e h
  rw [restP_at h]
  rcases foll_bix (L := mvs L) e.1.1 m false (by rw [mvs_len]; omega) with ⟨h3, h4⟩ | ⟨j, m', h3, h4, h5, h6⟩
  · exact ⟨0, by omega, by rw [h2, h3]; rfl, by rw [h4]; rfl⟩
  · refine ⟨j + 1, by omega, by rw [h2, h5]; omega, ?_⟩
    rw [h6]
    show _ = e.1.1 :: (match (mvs L)[j]? with | some e => e.1 :: foll false e.1 (dn (mvs L) j) | none => [])
    rw [h4]
theorem pth_tr {r : List Nd} {L1 : List Tr} {m : Mv} {b : Int} (h : isTr r (L1 ++ [(m, b)])) : pth r = (m.2.1 :: restP (L1 ++ [(m, b)]) (L1.length + 1)).reverse := by
  have hm : mvs (L1 ++ [(m, b)]) = mvs L1 ++ [m] := by unfold mvs; rw [List.map_append]; rfl
  have hg : (L1 ++ [(m, b)])[L1.length]? = some (m, b) := by rw [List.getElem?_append_right (Nat.le_refl _), Nat.sub_self]; rfl
  rw [restP_at hg]
  unfold pth
  rw [← h.1, hm, List.reverse_append, dn_app (by rw [mvs_len]; exact Nat.le_refl _), ← mvs_len L1, dn_all]
  rfl
end Go.Proofs.Yteaclphankckiaa
