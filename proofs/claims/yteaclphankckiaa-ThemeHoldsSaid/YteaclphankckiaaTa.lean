/- Layer 35, plain: trees: which are valid; the moves that stand beside one. -/
import Derived.Test.YteaclphankckiaaTmv
namespace Go.Proofs.Yteaclphankckiaa
open Go.RowKit
set_option linter.unusedSimpArgs false
set_option linter.unusedVariables false

/-- a move: from, to, the promotion -/
abbrev Mv := Int × Int × Int
/-- a node of a tree: the ply, the move -/
abbrev Nd := Int × Mv
def nEnc (x : Nd) : List Value := [.int .i64 x.1, .int .i64 x.2.1, .int .i64 x.2.2.1, .int .i8 x.2.2.2]
theorem nEnc_len (x : Nd) : (nEnc x).length = 4 := rfl
theorem nEnc_one (x : Nd) : ∀ u ∈ nEnc x, u.oneCell' = true := by
  intro u hu
  simp only [nEnc, List.mem_cons, List.not_mem_nil, or_false] at hu
  rcases hu with rfl | rfl | rfl | rfl <;> rfl
theorem nodeRow : RowOf Try.prog 25 59 4 32 :=
  RowOf.mk' (z := .agg #[.int .i64 0, .int .i64 0, .int .i64 0, .int .i8 0]) Try.underlying25 (by kernel_rfl) (by decide) (by decide) rfl
/-- the four cells of a node -/
theorem nd4 {w : World} {B : Nat} {A : Option Addr} {l : List Nd} (h : RecAt nEnc 4 w B A l) {k : Nat} {x : Nd} (hx : l[k]? = some x) :
    ∃ b off, A = some ⟨b, off, none⟩ ∧ b < B ∧ w.cell? ⟨b, off + k * 4, none⟩ = some (.int .i64 x.1) ∧ w.cell? ⟨b, off + k * 4 + 1, none⟩ = some (.int .i64 x.2.1) ∧ w.cell? ⟨b, off + k * 4 + 2, none⟩ = some (.int .i64 x.2.2.1) ∧ w.cell? ⟨b, off + k * 4 + 3, none⟩ = some (.int .i8 x.2.2.2) := by
  obtain ⟨b, off, e, hb, hc⟩ := h (by have := (List.getElem?_eq_some_iff.1 hx).1; omega)
  exact ⟨b, off, e, hb, hc k x hx 0 _ rfl, hc k x hx 1 _ rfl, hc k x hx 2 _ rfl, hc k x hx 3 _ rfl⟩
/-- the ply of the last node (the nodes stand the last one first) -/
def top : List Nd → Int
  | [] => 0
  | y :: _ => y.1
/-- the moves of a ply since the last node of a lower one, the last one first -/
def sibs (r : List Nd) (p : Int) : List Mv := ((r.takeWhile fun y => decide (p ≤ y.1)).filter fun y => decide (y.1 = p)).map (·.2)
def plyB (r : List Nd) (x : Nd) : Bool := decide (1 ≤ x.1 ∧ x.1 ≤ top r + 1)
def fitB (r : List Nd) (x : Nd) : Bool := plyB r x && !(sibs r x.1).contains x.2
def nodeB (f q : Int) (r : List Nd) (x : Nd) : Bool := mvB f q x.2.1 x.2.2.1 x.2.2.2 && fitB r x
/-- the first k nodes, the last one first -/
def back (t : List Nd) (k : Nat) : List Nd := (t.take k).reverse
theorem back_zero (t : List Nd) : back t 0 = [] := by simp [back]
theorem back_succ {t : List Nd} {k : Nat} {x : Nd} (h : t[k]? = some x) : back t (k + 1) = x :: back t k := by
  unfold back
  rw [List.take_add_one, h, List.reverse_append]; rfl
theorem back_length {t : List Nd} {k : Nat} (h : k ≤ t.length) : (back t k).length = k := by simp [back]; omega
/-- the first k nodes are valid -/
def okK (f q : Int) (t : List Nd) : Nat → Bool
  | 0 => true
  | k + 1 => okK f q t k && (match t[k]? with | some x => nodeB f q (back t k) x | none => true)
def treeB (f q : Int) (t : List Nd) : Bool := szB f q && okK f q t t.length
theorem okK_succ {f q : Int} {t : List Nd} {k : Nat} {x : Nd} (h : t[k]? = some x) : okK f q t (k + 1) = (okK f q t k && nodeB f q (back t k) x) := by
  show (okK f q t k && (match t[k]? with | some x => nodeB f q (back t k) x | none => true)) = _
  rw [h]
theorem okK_le {f q : Int} {t : List Nd} : ∀ {k j : Nat}, j ≤ k → okK f q t k = true → okK f q t j = true
  | 0, j, hj, h => by
    have e : j = 0 := by omega
    rw [e]
    exact h
  | k + 1, j, hj, h => by
    by_cases hjk : j = k + 1
    · subst hjk; exact h
    · have h2 : okK f q t k = true := by
        have h3 : (okK f q t k && (match t[k]? with | some x => nodeB f q (back t k) x | none => true)) = true := h
        rw [Bool.and_eq_true] at h3
        exact h3.1
      exact okK_le (by omega) h2
theorem okK_no {f q : Int} {t : List Nd} {k n : Nat} {x : Nd} (hk : k < n) (h : t[k]? = some x) (hx : nodeB f q (back t k) x = false) : okK f q t n = false := by
  cases hb : okK f q t n with
  | false => rfl
  | true =>
    have h2 := okK_le (j := k + 1) (by omega) hb
    rw [okK_succ h, hx, Bool.and_false] at h2
    cases h2
theorem okK_at {f q : Int} {t : List Nd} {k n : Nat} {x : Nd} (hb : okK f q t n = true) (hk : k < n) (h : t[k]? = some x) : nodeB f q (back t k) x = true := by
  have h2 := okK_le (j := k + 1) (by omega) hb
  rw [okK_succ h, Bool.and_eq_true] at h2
  exact h2.2
theorem treeB_out {f q : Int} {t : List Nd} (h : treeB f q t = true) : szB f q = true ∧ okK f q t t.length = true := by
  unfold treeB at h
  rwa [Bool.and_eq_true] at h
theorem nodeB_out {f q : Int} {r : List Nd} {x : Nd} (h : nodeB f q r x = true) : mvB f q x.2.1 x.2.2.1 x.2.2.2 = true ∧ 1 ≤ x.1 ∧ x.1 ≤ top r + 1 ∧ x.2 ∉ sibs r x.1 := by
  unfold nodeB fitB at h
  rw [Bool.and_eq_true, Bool.and_eq_true] at h
  obtain ⟨h1, h2, h3⟩ := h
  have h4 : 1 ≤ x.1 ∧ x.1 ≤ top r + 1 := of_decide_eq_true h2
  refine ⟨h1, h4.1, h4.2, fun hm => ?_⟩
  rw [List.contains_iff_mem.2 hm] at h3
  cases h3
/-- a step onto a ply -/
theorem sibs_low {r : List Nd} {x : Nd} {p : Int} (h : p < x.1) : sibs (x :: r) p = sibs r p := by
  unfold sibs
  rw [List.takeWhile_cons_of_pos (by simpa using Int.le_of_lt h), List.filter_cons_of_neg (by simp; omega)]
theorem sibs_same {r : List Nd} {x : Nd} : sibs (x :: r) x.1 = x.2 :: sibs r x.1 := by
  unfold sibs
  rw [List.takeWhile_cons_of_pos (by simp), List.filter_cons_of_pos (by simp), List.map_cons]
theorem sibs_high {r : List Nd} {p : Int} (h : top r < p) : sibs r p = [] := by
  cases r with
  | nil => rfl
  | cons y r =>
    have h2 : y.1 < p := h
    unfold sibs
    rw [List.takeWhile_cons_of_neg (by simp; omega)]
    rfl
/-- plies of a valid tree: from 1 on, at most one more than there are nodes -/
theorem okK_ply {f q : Int} {t : List Nd} {n : Nat} (hb : okK f q t n = true) : ∀ {k : Nat}, k ≤ n → 0 ≤ top (back t k) ∧ top (back t k) ≤ (k : Int) := by
  intro k
  induction k with
  | zero => intro _; rw [back_zero]; exact ⟨by decide, by decide⟩
  | succ k ih =>
    intro hk
    obtain ⟨h1, h2⟩ := ih (by omega)
    cases hx : t[k]? with
    | none =>
      have : back t (k + 1) = back t k := by
        unfold back
        rw [List.take_add_one, hx]; simp
      rw [this]
      omega
    | some x =>
      obtain ⟨_, h3, h4, _⟩ := nodeB_out (okK_at hb (by omega) hx)
      rw [back_succ hx]
      show 0 ≤ x.1 ∧ x.1 ≤ _
      omega
end Go.Proofs.Yteaclphankckiaa
