/- Layer 43: all pairings and the table of lowest costs, plain. -/
import Derived.Test.YtjjjdoealagpcaaDoorHh
namespace Go.Proofs.YtjjjdoealagpcaaDoor
open Go Go.RowKit
set_option linter.unusedSimpArgs false
set_option linter.unusedVariables false
/-- all ways to pair the elements of a set, in order -/
def genL (len : Nat) : Nat → Nat → List (List (Nat × Nat))
  | 0, s => if s = 0 then [[]] else []
  | k + 1, s => if s = 0 then [[]] else ((ordL len (lowE s)).filter (fun j => s.testBit j)).flatMap fun j => (genL len k (restN s (lowE s) j)).map (List.cons (lowE s, j))
theorem genL_zero (len k : Nat) : genL len k 0 = [[]] := by
  cases k with
  | zero => rfl
  | succ k => exact if_pos rfl
theorem genL_succ {len k s : Nat} (h0 : s ≠ 0) : genL len (k + 1) s = ((ordL len (lowE s)).filter (fun j => s.testBit j)).flatMap fun j => (genL len k (restN s (lowE s) j)).map (List.cons (lowE s, j)) := if_neg h0
def costL (C : Nat → Nat → Int) : List (Nat × Nat) → Int
  | [] => 0
  | p :: ps => if C p.1 p.2 = -1 ∨ costL C ps = -1 then -1 else C p.1 p.2 + costL C ps
theorem costL_bd {C : Nat → Nat → Int} (hC : ∀ i j, C i j = -1 ∨ 0 ≤ C i j) : ∀ ps, costL C ps = -1 ∨ 0 ≤ costL C ps
  | [] => Or.inr (Int.le_refl _)
  | p :: ps => by
    have h1 := costL_bd hC ps
    have h2 := hC p.1 p.2
    by_cases h : C p.1 p.2 = -1 ∨ costL C ps = -1
    · exact Or.inl (if_pos h)
    · rw [show costL C (p :: ps) = C p.1 p.2 + costL C ps from if_neg h]
      rw [not_or] at h
      have h3 := h1.resolve_left h.2
      have h4 := h2.resolve_left h.1
      exact Or.inr (by omega)
/-- the first one of the lowest cost -/
structure FM {α : Type} (c : α → Int) (X : List α) (r : α) : Prop where
  out : ∃ pre post, X = pre ++ r :: post ∧ (∀ x ∈ pre, c x = -1 ∨ c r < c x) ∧ (∀ x ∈ post, c x = -1 ∨ c r ≤ c x)
theorem FM.le {α : Type} {c : α → Int} {X : List α} {r : α} (h : FM c X r) {x : α} (hx : x ∈ X) : c x = -1 ∨ c r ≤ c x := by
  obtain ⟨pre, post, rfl, h1, h2⟩ := h.out
  rcases List.mem_append.1 hx with h3 | h3
  · exact (h1 x h3).imp id (fun h => by omega)
  · rcases List.mem_cons.1 h3 with rfl | h3
    · exact Or.inr (Int.le_refl _)
    · exact h2 x h3
theorem upT_low {C : Nat → Nat → Int} {T : Nat → Int} {s i j : Nat} (hp : ∀ q, i < q → s.testBit q = true → C i q ≠ -1 → T (restN s i q) ≠ -1 → 0 ≤ C i q + T (restN s i q)) (hj : i < j) (hb : s.testBit j = true) (hC : C i j ≠ -1) (hT : T (restN s i j) ≠ -1) : ∀ d, j < i + 1 + d → upT C T s i d ≠ -1 ∧ upT C T s i d ≤ C i j + T (restN s i j)
  | 0, h => by omega
  | d + 1, h => by
    show stepT C T s i (upT C T s i d) (i + 1 + d) ≠ -1 ∧ stepT C T s i (upT C T s i d) (i + 1 + d) ≤ _
    by_cases e : j = i + 1 + d
    · subst e
      have h0 := hp _ hj hb hC hT
      unfold stepT
      by_cases hh : upT C T s i d = -1 ∨ C i (i + 1 + d) + T (restN s i (i + 1 + d)) < upT C T s i d
      · rw [if_pos ⟨hb, hC, hT, hh⟩]; exact ⟨by omega, Int.le_refl _⟩
      · rw [if_neg (fun h => hh h.2.2.2)]
        rw [not_or] at hh
        exact ⟨hh.1, by omega⟩
    · obtain ⟨h1, h2⟩ := upT_low hp hj hb hC hT d (by omega)
      unfold stepT
      split
      · rename_i hh
        have h3 := hh.2.2.2.resolve_left h1
        have h4 := hp _ (by omega) hh.1 hh.2.1 hh.2.2.1
        exact ⟨by omega, by omega⟩
      · exact ⟨h1, h2⟩
theorem mem_filt {len s i j : Nat} (hi : i < len) (h : j ∈ (ordL len i).filter (fun j => s.testBit j)) : i < j ∧ j ≤ len ∧ s.testBit j = true := by
  obtain ⟨h1, h2⟩ := List.mem_filter.1 h
  obtain ⟨h3, h4, _⟩ := mem_ordL hi h1
  exact ⟨h3, h4, h2⟩
theorem costL_cons {C : Nat → Nat → Int} {p : Nat × Nat} {ps : List (Nat × Nat)} (h : costL C (p :: ps) ≠ -1) : C p.1 p.2 ≠ -1 ∧ costL C ps ≠ -1 ∧ costL C (p :: ps) = C p.1 p.2 + costL C ps := by
  by_cases hh : C p.1 p.2 = -1 ∨ costL C ps = -1
  · exact absurd (if_pos hh) h
  · have e : costL C (p :: ps) = C p.1 p.2 + costL C ps := if_neg hh
    rw [not_or] at hh
    exact ⟨hh.1, hh.2, e⟩
theorem costL_add {C : Nat → Nat → Int} {p : Nat × Nat} {ps : List (Nat × Nat)} (h1 : C p.1 p.2 ≠ -1) (h2 : costL C ps ≠ -1) : costL C (p :: ps) = C p.1 p.2 + costL C ps := if_neg (fun h => h.elim h1 h2)
/-- a set with an even number of elements has a lowest one that is no bye -/
def evAll : Bool := (List.range 256).all fun s => s == 0 || cntE s % 2 == 1 || (List.range 9).all fun n => decide (2 ^ (n + n % 2) ≤ s) || decide (lowE s < n)
theorem evAll_true : evAll = true := by decide +kernel
theorem low_len {len s : Nat} (hl : len ≤ 8) (hs : s < 2 ^ (len + len % 2)) (hs2 : s < 256) (h0 : s ≠ 0) (hc : cntE s % 2 = 0) : lowE s < len := by
  have h := evAll_true
  unfold evAll at h
  have h1 := List.all_eq_true.1 h s (List.mem_range.2 hs2)
  rw [show (s == 0) = false from beq_eq_false_iff_ne.2 h0, hc] at h1
  simp only [Bool.false_or] at h1
  have h2 := List.all_eq_true.1 (show (List.range 9).all (fun n => decide (2 ^ (n + n % 2) ≤ s) || decide (lowE s < n)) = true by simpa using h1) len (List.mem_range.2 (by omega))
  rw [show decide (2 ^ (len + len % 2) ≤ s) = false from decide_eq_false (by omega), Bool.false_or, decide_eq_true_eq] at h2
  exact h2
theorem flat_filter_none {α β : Type} {L : List α} {f : α → List β} {c : β → Int} (h : ∀ a ∈ L, ∀ x ∈ f a, c x = -1) : ∀ x ∈ L.flatMap f, c x = -1 := fun x hx => by
  obtain ⟨a, ha, hx⟩ := List.mem_flatMap.1 hx
  exact h a ha x hx
/-- the table's lowest cost, and its reading, are the first lowest one of all -/
theorem fm_all {C : Nat → Nat → Int} {len n : Nat} (hn : n = len + len % 2) (hn8 : n ≤ 8) (hC : ∀ i j, C i j = -1 ∨ 0 ≤ C i j) : ∀ (k s : Nat), s ≤ k → s < 2 ^ n → cntE s % 2 = 0 →
    (bestT C n s = -1 ∧ ∀ x ∈ genL len k s, costL C x = -1) ∨ (0 ≤ bestT C n s ∧ FM (costL C) (genL len k s) (pickL C (bestT C n) len k s) ∧ costL C (pickL C (bestT C n) len k s) = bestT C n s) := by
  intro k
  induction k with
  | zero =>
    intro s hk hs hc
    obtain rfl : s = 0 := by omega
    refine Or.inr ⟨Int.le_refl _, ⟨[], [], rfl, fun x h => absurd h List.not_mem_nil, fun x h => absurd h List.not_mem_nil⟩, rfl⟩
  | succ k ih =>
    intro s hk hs hc
    by_cases h0 : s = 0
    · subst h0
      rw [genL_zero, pickL_zero]
      refine Or.inr ⟨Int.le_refl _, ⟨[], [], rfl, fun x h => absurd h List.not_mem_nil, fun x h => absurd h List.not_mem_nil⟩, rfl⟩
    have hs2 : s < 256 := Nat.lt_of_lt_of_le hs (full_lt hn8)
    obtain ⟨l1, l2, l3⟩ := low_in hs2 h0
    have hil : lowE s < len := low_len (by omega) (hn ▸ hs) hs2 h0 hc
    have hT : bestT C n s = upT C (bestT C n) s (lowE s) (n - (lowE s + 1)) := by
      have he := bestT_eq C n s hs2
      unfold entT at he
      rwa [if_neg h0, if_pos hc] at he
    have hrest : ∀ j, lowE s < j → s.testBit j = true → restN s (lowE s) j ≤ k ∧ restN s (lowE s) j < 2 ^ n ∧ cntE (restN s (lowE s) j) % 2 = 0 := fun j hj hb => by
      obtain ⟨_, r1, r2, r3⟩ := rest_eq hs2 l2 (testBit_lt8 hs2 hb) (by omega) l1 hb
      exact ⟨by omega, by omega, by omega⟩
    have hbd : ∀ j, lowE s < j → s.testBit j = true → bestT C n (restN s (lowE s) j) = -1 ∨ 0 ≤ bestT C n (restN s (lowE s) j) := fun j hj hb => by
      obtain ⟨r1, r2, r3⟩ := hrest j hj hb
      exact (ih _ r1 r2 r3).imp (fun h => h.1) (fun h => h.1)
    have hpos : ∀ q, lowE s < q → s.testBit q = true → C (lowE s) q ≠ -1 → bestT C n (restN s (lowE s) q) ≠ -1 → 0 ≤ C (lowE s) q + bestT C n (restN s (lowE s) q) := fun q hq hb h1 h2 => by
      have := (hC (lowE s) q).resolve_left h1
      have := (hbd q hq hb).resolve_left h2
      omega
    have hlow : ∀ j, lowE s < j → s.testBit j = true → C (lowE s) j ≠ -1 → bestT C n (restN s (lowE s) j) ≠ -1 → bestT C n s ≠ -1 ∧ bestT C n s ≤ C (lowE s) j + bestT C n (restN s (lowE s) j) := fun j hj hb h1 h2 => by
      rw [hT]
      have := bit_lt hs hb
      exact upT_low hpos hj hb h1 h2 _ (by omega)
    -- a pairing that begins with j
    have hcons : ∀ j, lowE s < j → s.testBit j = true → ∀ y ∈ genL len k (restN s (lowE s) j), costL C ((lowE s, j) :: y) ≠ -1 → C (lowE s) j ≠ -1 ∧ bestT C n (restN s (lowE s) j) ≠ -1 ∧ C (lowE s) j + bestT C n (restN s (lowE s) j) ≤ costL C ((lowE s, j) :: y) := fun j hj hb y hy hne => by
      obtain ⟨c1, c2, c3⟩ := costL_cons hne
      obtain ⟨r1, r2, r3⟩ := hrest j hj hb
      rcases ih _ r1 r2 r3 with ⟨_, h2⟩ | ⟨h1, h2, h3⟩
      · exact absurd (h2 y hy) c2
      · have h4 := (h2.le hy).resolve_left c2
        rw [h3] at h4
        rw [c3]
        exact ⟨c1, by omega, by show C (lowE s) j + _ ≤ C (lowE s) j + _; omega⟩
    by_cases hm : bestT C n s = -1
    · refine Or.inl ⟨hm, ?_⟩
      rw [genL_succ h0]
      refine flat_filter_none fun j hj x hx => ?_
      obtain ⟨f1, f2, f3⟩ := mem_filt hil hj
      obtain ⟨y, hy, rfl⟩ := List.mem_map.1 hx
      rcases Classical.em (costL C ((lowE s, j) :: y) = -1) with h | h
      · exact h
      · obtain ⟨c1, c2, c3⟩ := hcons j f1 f3 y hy h
        exact absurd hm (hlow j f1 f3 c1 c2).1
    · obtain ⟨J, hJ⟩ := pickJ_some hn hn8 hs h0 hm
      have hpk : pickL C (bestT C n) len (k + 1) s = (lowE s, J) :: pickL C (bestT C n) len k (restN s (lowE s) J) := by
        show (if s = 0 then [] else _) = _
        rw [if_neg h0, hJ]
      obtain ⟨hmo, hok⟩ := pickJ_out hJ
      obtain ⟨o1, o2, o3, o4⟩ := okJ_iff.1 hok
      obtain ⟨j1, j2, _⟩ := mem_ordL hil hmo
      obtain ⟨r1, r2, r3⟩ := hrest J j1 o1
      rcases ih _ r1 r2 r3 with ⟨h1, _⟩ | ⟨h1, h2, h3⟩
      · exact absurd h1 o3
      have hcst : costL C ((lowE s, J) :: pickL C (bestT C n) len k (restN s (lowE s) J)) = bestT C n s := by
        rw [costL_add o2 (by rw [h3]; exact o3), h3]; exact o4
      refine Or.inr ⟨?_, ?_, by rw [hpk]; exact hcst⟩
      · have := (hC (lowE s) J).resolve_left o2
        omega
      rw [hpk]
      unfold pickJ at hJ
      obtain ⟨_, aa, bs, hab, hno⟩ := List.find?_eq_some_iff_append.1 hJ
      obtain ⟨pre, post, hX, hpre, hpost⟩ := h2.out
      rw [genL_succ h0, hab, List.filter_append, List.filter_cons_of_pos (by exact o1), List.flatMap_append, List.flatMap_cons, hX, List.map_append, List.map_cons]
      have hle : ∀ j, j ∈ ordL len (lowE s) → s.testBit j = true → ∀ y ∈ genL len k (restN s (lowE s) j), costL C ((lowE s, j) :: y) = -1 ∨ bestT C n s ≤ costL C ((lowE s, j) :: y) := fun j hj hb y hy => by
        rcases Classical.em (costL C ((lowE s, j) :: y) = -1) with h | h
        · exact Or.inl h
        · have hj1 := (mem_ordL hil hj).1
          obtain ⟨c1, c2, c3⟩ := hcons j hj1 hb y hy h
          have := (hlow j hj1 hb c1 c2).2
          exact Or.inr (by omega)
      refine ⟨⟨((aa.filter fun j => s.testBit j).flatMap fun j => (genL len k (restN s (lowE s) j)).map (List.cons (lowE s, j))) ++ pre.map (List.cons (lowE s, J)), post.map (List.cons (lowE s, J)) ++ ((bs.filter fun j => s.testBit j).flatMap fun j => (genL len k (restN s (lowE s) j)).map (List.cons (lowE s, j))), by simp, ?_, ?_⟩⟩
      · intro x hx
        rw [hcst]
        rcases List.mem_append.1 hx with hx | hx
        · obtain ⟨j, hj, hx⟩ := List.mem_flatMap.1 hx
          obtain ⟨y, hy, rfl⟩ := List.mem_map.1 hx
          obtain ⟨ja, jb⟩ := List.mem_filter.1 hj
          have hj1 := (mem_ordL hil (by rw [hab]; exact List.mem_append_left _ ja)).1
          rcases Classical.em (costL C ((lowE s, j) :: y) = -1) with h | h
          · exact Or.inl h
          · obtain ⟨c1, c2, c3⟩ := hcons j hj1 jb y hy h
            have h5 := (hlow j hj1 jb c1 c2).2
            have h6 := hno j ja
            refine Or.inr (Int.not_le.1 fun he => ?_)
            have : okJ C (bestT C n) s (lowE s) j = true := okJ_iff.2 ⟨jb, c1, c2, by omega⟩
            rw [this] at h6
            cases h6
        · obtain ⟨y, hy, rfl⟩ := List.mem_map.1 hx
          rcases hpre y hy with h | h
          · exact Or.inl (if_pos (Or.inr h))
          · refine Or.inr ?_
            rw [h3] at h
            rw [costL_add o2 (by omega)]
            show _ < C (lowE s) J + _
            omega
      · intro x hx
        rw [hcst]
        rcases List.mem_append.1 hx with hx | hx
        · obtain ⟨y, hy, rfl⟩ := List.mem_map.1 hx
          exact hle J hmo o1 y (by rw [hX]; exact List.mem_append_right _ (List.mem_cons_of_mem _ hy))
        · obtain ⟨j, hj, hx⟩ := List.mem_flatMap.1 hx
          obtain ⟨y, hy, rfl⟩ := List.mem_map.1 hx
          obtain ⟨ja, jb⟩ := List.mem_filter.1 hj
          exact hle j (by rw [hab]; exact List.mem_append_right _ (List.mem_cons_of_mem _ ja)) jb y hy
end Go.Proofs.YtjjjdoealagpcaaDoor
