/- Layer 35, plain: what is found stands in order, has a beginning for every beginning of the tree, and a path ends at its move. -/
import Derived.Test.YteaclphankckiaaTk
import Derived.Test.YteaclphankckiaaTb
import Derived.Test.YteaclphankckiaaTx
namespace Go.Proofs.Yteaclphankckiaa
open Go Go.RowKit
set_option linter.unusedSimpArgs false
set_option linter.unusedVariables false

def shLt (a b : Sh') : Prop := a.2 < b.2 ∨ a.2 = b.2 ∧ a.1 < b.1
theorem addL_mem {b : Bool} {th i : Int} {y : Sh'} (h : y ∈ addL b th i) : b = true ∧ y = (th, i) := by
  unfold addL at h
  split at h
  · rename_i hb; exact ⟨hb, by simpa using h⟩
  · simp at h
theorem addL_in {b : Bool} {th i : Int} (h : b = true) : (th, i) ∈ addL b th i := by unfold addL; rw [if_pos h]; exact List.mem_singleton.2 rfl
theorem shL_mem {f q : Int} {bk : Bool} {t : List Nd} {i : Nat} {x : Nd} {y : Sh'} (h : y ∈ shL f q bk t i x) : y.2 = (i : Int) ∧
    (y.1 = 1 ∧ s1 x = true ∨ y.1 = 2 ∧ s2 x = true ∨ y.1 = 3 ∧ s3 x (kin t i) = true ∨ y.1 = 4 ∧ s4 (pth (back t (i + 1))) = true ∨ y.1 = 5 ∧ s5 (pth (back t (i + 1))) = true ∨ y.1 = 6 ∧ s6 f q bk x (pth (back t (i + 1))) = true) := by
  unfold shL at h
  simp only [List.mem_append] at h
  rcases h with ((((h | h) | h) | h) | h) | h <;> obtain ⟨h1, rfl⟩ := addL_mem h <;> refine ⟨rfl, ?_⟩
  · exact .inl ⟨rfl, h1⟩
  · exact .inr (.inl ⟨rfl, h1⟩)
  · exact .inr (.inr (.inl ⟨rfl, h1⟩))
  · exact .inr (.inr (.inr (.inl ⟨rfl, h1⟩)))
  · exact .inr (.inr (.inr (.inr (.inl ⟨rfl, h1⟩))))
  · exact .inr (.inr (.inr (.inr (.inr ⟨rfl, h1⟩))))
theorem addL_pair (b : Bool) (th i : Int) : (addL b th i).Pairwise shLt := by unfold addL; split <;> simp
theorem app_pair {l : List Sh'} {n i th : Int} {b : Bool} (h : l.Pairwise shLt) (hl : ∀ y ∈ l, y.2 = i ∧ y.1 < th) : (l ++ addL b th i).Pairwise shLt ∧ ∀ y ∈ l ++ addL b th i, y.2 = i ∧ y.1 < th + 1 := by
  refine ⟨List.pairwise_append.2 ⟨h, addL_pair b th i, fun a ha c hc => ?_⟩, fun y hy => ?_⟩
  · obtain ⟨_, rfl⟩ := addL_mem hc
    obtain ⟨h1, h2⟩ := hl a ha
    exact .inr ⟨h1, h2⟩
  · rcases List.mem_append.1 hy with hy | hy
    · obtain ⟨h1, h2⟩ := hl y hy
      exact ⟨h1, by omega⟩
    · obtain ⟨_, rfl⟩ := addL_mem hy
      exact ⟨rfl, by show th < th + 1; omega⟩
theorem shL_pair (f q : Int) (bk : Bool) (t : List Nd) (i : Nat) (x : Nd) : (shL f q bk t i x).Pairwise shLt := by
  unfold shL
  have h1 : (addL (s1 x) 1 (i : Int)).Pairwise shLt ∧ ∀ y ∈ addL (s1 x) 1 (i : Int), y.2 = (i : Int) ∧ y.1 < 2 := ⟨addL_pair _ _ _, fun y hy => by obtain ⟨_, rfl⟩ := addL_mem hy; exact ⟨rfl, by show (1 : Int) < 2; omega⟩⟩
  have h2 := app_pair (n := 0) (b := s2 x) (th := 2) h1.1 h1.2
  have h3 := app_pair (n := 0) (b := s3 x (kin t i)) (th := 3) h2.1 h2.2
  have h4 := app_pair (n := 0) (b := s4 (pth (back t (i + 1)))) (th := 4) h3.1 h3.2
  have h5 := app_pair (n := 0) (b := s5 (pth (back t (i + 1)))) (th := 5) h4.1 h4.2
  exact (app_pair (n := 0) (b := s6 f q bk x (pth (back t (i + 1)))) (th := 6) h5.1 h5.2).1
theorem fnd_mem {f q : Int} {bk : Bool} {t : List Nd} : ∀ {k : Nat} {y : Sh'}, y ∈ fnd f q bk t k → ∃ i x, i < k ∧ t[i]? = some x ∧ y ∈ shL f q bk t i x ∧ ∀ z ∈ shL f q bk t i x, z ∈ fnd f q bk t k
  | 0, y, h => by cases h
  | k + 1, y, h => by
    cases hx : t[k]? with
    | none =>
      have e : fnd f q bk t (k + 1) = fnd f q bk t k := by show (match t[k]? with | some x => fnd f q bk t k ++ shL f q bk t k x | none => fnd f q bk t k) = _; rw [hx]
      rw [e] at h ⊢
      obtain ⟨i, x, h1, h2⟩ := fnd_mem h
      exact ⟨i, x, by omega, h2⟩
    | some x =>
      rw [fnd_succ hx] at h ⊢
      rcases List.mem_append.1 h with h | h
      · obtain ⟨i, x2, h1, h2, h3, h4⟩ := fnd_mem h
        exact ⟨i, x2, by omega, h2, h3, fun z hz => List.mem_append_left _ (h4 z hz)⟩
      · exact ⟨k, x, by omega, hx, h, fun z hz => List.mem_append_right _ hz⟩
theorem fnd_at {f q : Int} {bk : Bool} {t : List Nd} {k : Nat} {y : Sh'} (h : y ∈ fnd f q bk t k) : 0 ≤ y.2 ∧ y.2 < (k : Int) := by
  obtain ⟨i, x, h1, _, h3, _⟩ := fnd_mem h
  have := (shL_mem h3).1
  omega
theorem fnd_pair (f q : Int) (bk : Bool) (t : List Nd) : ∀ k, (fnd f q bk t k).Pairwise shLt
  | 0 => List.Pairwise.nil
  | k + 1 => by
    cases hx : t[k]? with
    | none =>
      have e : fnd f q bk t (k + 1) = fnd f q bk t k := by show (match t[k]? with | some x => fnd f q bk t k ++ shL f q bk t k x | none => fnd f q bk t k) = _; rw [hx]
      rw [e]; exact fnd_pair f q bk t k
    | some x =>
      rw [fnd_succ hx]
      refine List.pairwise_append.2 ⟨fnd_pair f q bk t k, shL_pair f q bk t k x, fun a ha c hc => ?_⟩
      have h1 := (fnd_at ha).2
      have h2 := (shL_mem hc).1
      exact .inl (by omega)
theorem take_tk {t : List Nd} {m k : Nat} (h : k < m) : (t.take m)[k]? = t[k]? := by rw [List.getElem?_take, if_pos h]
theorem back_tk {t : List Nd} {m k : Nat} (h : k ≤ m) : back (t.take m) k = back t k := by unfold back; rw [List.take_take, Nat.min_eq_left h]
theorem kin_take {t : List Nd} {m : Nat} : ∀ {k : Nat}, k ≤ m → kin (t.take m) k = kin t k
  | 0, _ => rfl
  | k + 1, h => by
    have ih := kin_take (t := t) (m := m) (k := k) (by omega)
    show (match (t.take m)[k]? with | some x => if nPr x = 0 then kin (t.take m) k else insP (nPr x) (kin (t.take m) k) | none => kin (t.take m) k) = (match t[k]? with | some x => if nPr x = 0 then kin t k else insP (nPr x) (kin t k) | none => kin t k)
    rw [take_tk (by omega), ih]
theorem shL_take {f q : Int} {bk : Bool} {t : List Nd} {m i : Nat} {x : Nd} (h : i < m) : shL f q bk (t.take m) i x = shL f q bk t i x := by
  unfold shL
  rw [kin_take (by omega), back_tk (by omega)]
theorem fnd_take {f q : Int} {bk : Bool} {t : List Nd} {m : Nat} : ∀ {k : Nat}, k ≤ m → fnd f q bk (t.take m) k = fnd f q bk t k
  | 0, _ => rfl
  | k + 1, h => by
    have ih := fnd_take (f := f) (q := q) (bk := bk) (t := t) (m := m) (k := k) (by omega)
    show (match (t.take m)[k]? with | some x => fnd f q bk (t.take m) k ++ shL f q bk (t.take m) k x | none => fnd f q bk (t.take m) k) = (match t[k]? with | some x => fnd f q bk t k ++ shL f q bk t k x | none => fnd f q bk t k)
    rw [take_tk (by omega), ih]
    cases t[k]? with
    | none => rfl
    | some x =>
      show fnd f q bk t k ++ shL f q bk (t.take m) k x = fnd f q bk t k ++ shL f q bk t k x
      rw [shL_take (show k < m by omega)]
theorem okK_tk {f q : Int} {t : List Nd} {m : Nat} : ∀ {k : Nat}, k ≤ m → okK f q (t.take m) k = okK f q t k
  | 0, _ => rfl
  | k + 1, h => by
    have ih := okK_tk (f := f) (q := q) (t := t) (m := m) (k := k) (by omega)
    show (okK f q (t.take m) k && (match (t.take m)[k]? with | some x => nodeB f q (back (t.take m) k) x | none => true)) = (okK f q t k && (match t[k]? with | some x => nodeB f q (back t k) x | none => true))
    rw [take_tk (by omega), ih, back_tk (by omega)]
theorem treeB_take {f q : Int} {t : List Nd} {m : Nat} (h : treeB f q t = true) (hm : m ≤ t.length) : treeB f q (t.take m) = true := by
  obtain ⟨h1, h2⟩ := treeB_out h
  unfold treeB
  rw [h1, List.length_take, Nat.min_eq_left hm, okK_tk (Nat.le_refl m), okK_le hm h2]; rfl
theorem fnd_split (f q : Int) (bk : Bool) (t : List Nd) (m : Nat) : ∀ j, ∃ r, fnd f q bk t (m + j) = fnd f q bk t m ++ r ∧ ∀ y ∈ r, (m : Int) ≤ y.2
  | 0 => ⟨[], by simp, fun y hy => by cases hy⟩
  | j + 1 => by
    obtain ⟨r, h1, h2⟩ := fnd_split f q bk t m j
    cases hx : t[m + j]? with
    | none =>
      have e : fnd f q bk t (m + j + 1) = fnd f q bk t (m + j) := by show (match t[m + j]? with | some x => fnd f q bk t (m + j) ++ shL f q bk t (m + j) x | none => fnd f q bk t (m + j)) = _; rw [hx]
      exact ⟨r, by rw [← Nat.add_assoc, e, h1], h2⟩
    | some x =>
      refine ⟨r ++ shL f q bk t (m + j) x, by rw [← Nat.add_assoc, fnd_succ hx, h1, List.append_assoc], fun y hy => ?_⟩
      rcases List.mem_append.1 hy with hy | hy
      · exact h2 y hy
      · have := (shL_mem hy).1
        omega
/-- what the law asks of the two lists -/
structure FOk (N m : Int) (L S : List Sh') : Prop where
  bd : ∀ (k : Nat) (x : Sh'), L[k]? = some x → 0 ≤ x.2 ∧ x.2 < N
  th : ∀ (k : Nat) (x : Sh'), L[k]? = some x → x.1 = 1 ∨ x.1 = 2 ∨ x.1 = 3 ∨ x.1 = 4 ∨ x.1 = 5 ∨ x.1 = 6
  ord : ∀ (k : Nat) (y x : Sh'), L[k]? = some y → L[k + 1]? = some x → shLt y x
  lo : ∀ (k : Nat) (x : Sh'), L[k]? = some x → k < S.length → x.2 < m ∧ S[k]? = some x
  hi : ∀ (k : Nat) (x : Sh'), L[k]? = some x → S.length ≤ k → m ≤ x.2
  pr : ∀ (k : Nat) (x : Sh'), L[k]? = some x → x.1 = 2 ∨ x.1 = 3 ∨ x.1 = 6 → (1, x.2) ∈ L
  rt : ∀ (k : Nat) (x : Sh'), L[k]? = some x → x.1 = 5 → (4, x.2) ∉ L
  le : S.length ≤ L.length
theorem fnd_ok {f q : Int} {bk : Bool} {t : List Nd} {m : Nat} (hm : m ≤ t.length) : FOk t.length m (fnd f q bk t t.length) (fnd f q bk (t.take m) (t.take m).length) := by
  have e1 : fnd f q bk (t.take m) (t.take m).length = fnd f q bk t m := by rw [List.length_take, Nat.min_eq_left hm, fnd_take (Nat.le_refl m)]
  rw [e1]
  obtain ⟨r, h1, h2⟩ := fnd_split f q bk t m (t.length - m)
  rw [show m + (t.length - m) = t.length by omega] at h1
  have hp := fnd_pair f q bk t t.length
  refine ⟨fun k x hx => fnd_at (List.mem_of_getElem? hx), fun k x hx => ?_, fun k y x hy hx => ?_, fun k x hx hk => ?_, fun k x hx hk => ?_, fun k x hx h => ?_, fun k x hx h => ?_, ?_⟩
  · obtain ⟨i, nd, _, _, h5, _⟩ := fnd_mem (List.mem_of_getElem? hx)
    have h6 := (shL_mem h5).2
    omega
  · have hk1 := (List.getElem?_eq_some_iff.1 hy)
    have hk2 := (List.getElem?_eq_some_iff.1 hx)
    obtain ⟨a1, a2⟩ := hk1
    obtain ⟨b1, b2⟩ := hk2
    have := List.pairwise_iff_getElem.1 hp k (k + 1) a1 b1 (by omega)
    rwa [a2, b2] at this
  · rw [h1, List.getElem?_append_left hk] at hx
    exact ⟨(fnd_at (List.mem_of_getElem? hx)).2, hx⟩
  · rw [h1, List.getElem?_append_right hk] at hx
    exact h2 x (List.mem_of_getElem? hx)
  · obtain ⟨i, nd, _, _, h5, h6⟩ := fnd_mem (List.mem_of_getElem? hx)
    obtain ⟨h7, h8⟩ := shL_mem h5
    have hs : s1 nd = true := by
      rcases h8 with ⟨e, h8⟩ | ⟨e, h8⟩ | ⟨e, h8⟩ | ⟨e, h8⟩ | ⟨e, h8⟩ | ⟨e, h8⟩
      · omega
      · unfold s2 at h8; rw [Bool.and_eq_true] at h8; exact h8.1
      · unfold s3 at h8; rw [Bool.and_eq_true] at h8; exact h8.1
      · omega
      · omega
      · unfold s6 at h8; rw [Bool.and_eq_true] at h8; exact h8.1
    refine h6 _ ?_
    rw [h7]
    unfold shL
    simp only [List.mem_append]
    exact .inl (.inl (.inl (.inl (.inl (addL_in hs)))))
  · intro h4
    obtain ⟨i, nd, _, g2, h5, _⟩ := fnd_mem (List.mem_of_getElem? hx)
    obtain ⟨i', nd', _, g2', h5', _⟩ := fnd_mem h4
    obtain ⟨h7, h8⟩ := shL_mem h5
    obtain ⟨h7', h8'⟩ := shL_mem h5'
    have h7'' : x.2 = (i' : Int) := h7'
    obtain rfl : i = i' := by omega
    have k5 : s5 (pth (back t (i + 1))) = true := by
      rcases h8 with ⟨e, h8⟩ | ⟨e, h8⟩ | ⟨e, h8⟩ | ⟨e, h8⟩ | ⟨e, h8⟩ | ⟨e, h8⟩
      · omega
      · omega
      · omega
      · omega
      · exact h8
      · omega
    have k4 : s4 (pth (back t (i + 1))) = true := by
      rcases h8' with ⟨e, h8'⟩ | ⟨e, h8'⟩ | ⟨e, h8'⟩ | ⟨e, h8'⟩ | ⟨e, h8'⟩ | ⟨e, h8'⟩
      · exact absurd e (by show ¬ (4 : Int) = 1; omega)
      · exact absurd e (by show ¬ (4 : Int) = 2; omega)
      · exact absurd e (by show ¬ (4 : Int) = 3; omega)
      · exact h8'
      · exact absurd e (by show ¬ (4 : Int) = 5; omega)
      · exact absurd e (by show ¬ (4 : Int) = 6; omega)
    unfold s5 at k5
    unfold s4 at k4
    rw [Bool.and_eq_true] at k4 k5
    rw [Bool.and_eq_true] at k5
    rw [k4.2] at k5
    exact absurd k5.2.2 (by decide)
  · rw [h1, List.length_append]; omega
theorem foll_half (sq : Int) : ∀ (l : List Mv) , (foll false sq l).length * 2 ≤ l.length ∧ (foll true sq l).length * 2 ≤ l.length + 1 := by
  intro l
  induction l generalizing sq with
  | nil => exact ⟨Nat.le_refl _, Nat.zero_le _⟩
  | cons m l ih =>
    by_cases h : m.2.1 = sq
    · rw [foll_end h, foll_own h]
      have := (ih m.1).1
      simp only [List.length_cons, List.length_nil]
      omega
    · rw [foll_other h, foll_other h]
      have h1 := (ih sq).1
      have h2 := (ih sq).2
      show (foll (!false) sq l).length * 2 ≤ (m :: l).length ∧ (foll (!true) sq l).length * 2 ≤ (m :: l).length + 1
      simp only [Bool.not_false, Bool.not_true, List.length_cons]
      omega
/-- what the law asks of a path -/
structure POk (x : Nd) (p : List Int) : Prop where
  lo : 2 ≤ p.length
  hi : (p.length : Int) ≤ x.1.tdiv 2 + 2
  last : p[p.length - 1]? = some x.2.2.1
  prev : p[p.length - 2]? = some x.2.1
theorem pth_ok {x : Nd} {r : List Nd} (h0 : 1 ≤ x.1) : POk x (pth (x :: r)) := by
  rw [pth_cons]
  obtain ⟨d, hd⟩ : ∃ d, (stk r).drop ((stk r).length - (x.1 - 1).toNat) = d := ⟨_, rfl⟩
  have hdl : d.length ≤ (x.1 - 1).toNat := by rw [← hd, List.length_drop]; omega
  rw [hd]
  obtain ⟨g, hg⟩ : ∃ g, foll false x.2.1 d = g := ⟨_, rfl⟩
  have hgl := (foll_half x.2.1 d).1
  rw [hg] at hgl ⊢
  have e : (x.2.2.1 :: x.2.1 :: g).reverse = g.reverse ++ [x.2.1, x.2.2.1] := by simp
  rw [e]
  have hl : (g.reverse ++ [x.2.1, x.2.2.1]).length = g.length + 2 := by simp
  refine ⟨by omega, ?_, ?_, ?_⟩
  · rw [hl, Int.tdiv_eq_ediv_of_nonneg (by omega)]
    omega
  · rw [hl, List.getElem?_append_right (by simp)]
    simp
  · rw [hl, List.getElem?_append_right (by simp)]
    simp
end Go.Proofs.Yteaclphankckiaa
