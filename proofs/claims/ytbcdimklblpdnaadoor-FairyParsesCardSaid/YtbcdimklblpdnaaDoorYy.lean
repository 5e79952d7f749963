/- Layer 27: the sets of the program are those of the reference (plain). -/
import Derived.Test.YtbcdimklblpdnaaDoorYx
namespace Go.Proofs.YtbcdimklblpdnaaDoor
open Go Go.RowKit
set_option linter.unusedSimpArgs false
set_option linter.unusedVariables false
theorem orL_bit (j : Nat) (R : List Int) : (orL R).testBit j = true ↔ ∃ q ∈ R, q.toNat = j := by
  induction R with
  | nil =>
    show (0 : Nat).testBit j = true ↔ _
    simp
  | cons q R ih =>
    rw [show orL (q :: R) = orL ([q] ++ R) from rfl, orL_app, Nat.testBit_or, Bool.or_eq_true, ih]
    have h1 : (orL [q]).testBit j = true ↔ q.toNat = j := by
      show (0 ||| 2 ^ q.toNat).testBit j = true ↔ _
      rw [Nat.zero_or, Nat.testBit_two_pow]
      exact decide_eq_true_iff
    rw [h1]
    constructor
    · rintro (h | ⟨p, hp, h⟩)
      · exact ⟨q, List.mem_cons_self, h⟩
      · exact ⟨p, List.mem_cons_of_mem _ hp, h⟩
    · rintro ⟨p, hp, h⟩
      rcases List.mem_cons.1 hp with rfl | hp
      · exact .inl h
      · exact .inr ⟨p, hp, h⟩
theorem orF_eq (P : Vi → Bool) (V : List Vi) : orF P V = orL ((V.filter P).map (·.2)) := by
  have key : ∀ acc : Nat, V.foldl (fun acc p => if P p then acc ||| 2 ^ p.2.toNat else acc) acc = ((V.filter P).map (·.2)).foldl (fun o q => o ||| 2 ^ q.toNat) acc := by
    induction V with
    | nil => intro acc; rfl
    | cons v V ih =>
      intro acc
      show V.foldl _ (if P v then acc ||| 2 ^ v.2.toNat else acc) = _
      rw [ih]
      cases hv : P v
      · rw [List.filter_cons_of_neg (by rw [hv]; exact Bool.false_ne_true)]; rfl
      · rw [List.filter_cons_of_pos hv]; rfl
  exact key 0
theorem orF_bit (j : Nat) (P : Vi → Bool) (V : List Vi) : (orF P V).testBit j = true ↔ ∃ v ∈ V, P v = true ∧ v.2.toNat = j := by
  rw [orF_eq, orL_bit]
  constructor
  · rintro ⟨q, hq, h⟩
    obtain ⟨v, hv, rfl⟩ := List.mem_map.1 hq
    obtain ⟨h1, h2⟩ := List.mem_filter.1 hv
    exact ⟨v, h1, h2, h⟩
  · rintro ⟨v, hv, hp, h⟩
    exact ⟨v.2, List.mem_map.2 ⟨v, List.mem_filter.2 ⟨hv, hp⟩, rfl⟩, h⟩
section
variable {f r a : Nat} {ps : List Int} {b : Bool}
theorem mem_visP {but : Int} {l : List At} {q : Int} : q ∈ visP f r a ps b but l ↔ ∃ x ∈ l, x.mode ≠ but ∧ q ∈ visT f r a ps b x := by
  unfold visP
  rw [List.mem_flatMap]
  constructor
  · rintro ⟨x, hx, h⟩
    split at h
    · exact absurd h (by simp)
    · rename_i hm
      exact ⟨x, hx, hm, h⟩
  · rintro ⟨x, hx, hm, h⟩
    exact ⟨x, hx, by rw [if_neg hm]; exact h⟩
theorem mem_visA {l : List At} {v : Vi} : v ∈ visA f r a ps b l ↔ ∃ x ∈ l, v.1 = x.mode ∧ v.2 ∈ visT f r a ps b x := by
  unfold visA visS visR visT
  simp only [List.mem_flatMap, List.mem_map]
  constructor
  · rintro ⟨x, hx, s, hs, q, hq, rfl⟩
    exact ⟨x, hx, rfl, s, hs, hq⟩
  · rintro ⟨x, hx, h1, s, hs, hq⟩
    exact ⟨x, hx, s, hs, v.2, hq, by rw [← h1]⟩
theorem visT_mem (h : Bd f r a ps) {x : At} (hx : okA x) {q : Int} (hq : q ∈ visT f r a ps b x) : 0 ≤ q ∧ q < (ps.length : Int) := by
  unfold visT at hq
  obtain ⟨s, hs, hq⟩ := List.mem_flatMap.1 hq
  rw [h.len]
  exact reachV_mem (h.dir hx hs) hq
theorem attacks_eq (l : List At) : orL (visP f r a ps b 1 l) = orF pA (visA f r a ps b l) := by
  apply Nat.eq_of_testBit_eq
  intro j
  rw [Bool.eq_iff_iff, orL_bit, orF_bit]
  constructor
  · rintro ⟨q, hq, h⟩
    obtain ⟨x, hx, hm, hq⟩ := mem_visP.1 hq
    exact ⟨(x.mode, q), mem_visA.2 ⟨x, hx, rfl, hq⟩, decide_eq_true hm, h⟩
  · rintro ⟨v, hv, hp, h⟩
    obtain ⟨x, hx, h1, hq⟩ := mem_visA.1 hv
    refine ⟨v.2, mem_visP.2 ⟨x, hx, ?_, hq⟩, h⟩
    rw [← h1]
    exact of_decide_eq_true hp
theorem kept_bit (h : Bd f r a ps) {l : List At} (hl : ∀ x ∈ l, okA x) (is : Int → Bool) (but : Int) (hs : orL (visP f r a ps b but l) < 18446744073709551616) (j : Nat) : (keptN is ps (orL (visP f r a ps b but l)) ps.length).testBit j = true ↔ ∃ q ∈ visP f r a ps b but l, q.toNat = j ∧ is (ps.getD q.toNat 0) = true := by
  have hl64 : ps.length ≤ 64 := by rw [h.len]; exact Nat.mul_le_mul h.f1 h.r1
  rw [keptN_bit is ps _ hs j _ hl64, Bool.and_eq_true, Bool.or_eq_true, decide_eq_true_eq, orL_bit]
  constructor
  · rintro ⟨⟨q, hq, hj⟩, h2⟩
    obtain ⟨x, hx, hm, hq2⟩ := mem_visP.1 hq
    obtain ⟨q0, q1⟩ := visT_mem h (hl x hx) hq2
    refine ⟨q, hq, hj, ?_⟩
    rcases h2 with h2 | h2
    · omega
    · rw [hj]; exact h2
  · rintro ⟨q, hq, hj, hi⟩
    exact ⟨⟨q, hq, hj⟩, .inr (by rw [← hj]; exact hi)⟩
theorem goes_eq (h : Bd f r a ps) {l : List At} (hl : ∀ x ∈ l, okA x) (hs : orL (visP f r a ps b 2 l) < 18446744073709551616) : keptN (fun p => p == 0) ps (orL (visP f r a ps b 2 l)) ps.length = orF (pG ps) (visA f r a ps b l) := by
  apply Nat.eq_of_testBit_eq
  intro j
  rw [Bool.eq_iff_iff, kept_bit h hl _ _ hs, orF_bit]
  constructor
  · rintro ⟨q, hq, hj, hi⟩
    obtain ⟨x, hx, hm, hq⟩ := mem_visP.1 hq
    exact ⟨(x.mode, q), mem_visA.2 ⟨x, hx, rfl, hq⟩, decide_eq_true ⟨hm, beq_iff_eq.1 hi⟩, hj⟩
  · rintro ⟨v, hv, hp, hj⟩
    obtain ⟨x, hx, h1, hq⟩ := mem_visA.1 hv
    obtain ⟨hm, hi⟩ := of_decide_eq_true hp
    refine ⟨v.2, mem_visP.2 ⟨x, hx, ?_, hq⟩, hj, beq_iff_eq.2 hi⟩
    rw [← h1]; exact hm
theorem takes_eq (h : Bd f r a ps) {l : List At} (hl : ∀ x ∈ l, okA x) (hs : orL (visP f r a ps b 1 l) < 18446744073709551616) : keptN (enB b) ps (orL (visP f r a ps b 1 l)) ps.length = orF (pT b ps) (visA f r a ps b l) := by
  apply Nat.eq_of_testBit_eq
  intro j
  rw [Bool.eq_iff_iff, kept_bit h hl _ _ hs, orF_bit]
  constructor
  · rintro ⟨q, hq, hj, hi⟩
    obtain ⟨x, hx, hm, hq⟩ := mem_visP.1 hq
    refine ⟨(x.mode, q), mem_visA.2 ⟨x, hx, rfl, hq⟩, ?_, hj⟩
    unfold pT
    rw [decide_eq_true (show (x.mode, q).1 ≠ 1 from hm), Bool.true_and]
    exact hi
  · rintro ⟨v, hv, hp, hj⟩
    obtain ⟨x, hx, h1, hq⟩ := mem_visA.1 hv
    unfold pT at hp
    obtain ⟨hm, hi⟩ := Bool.and_eq_true_iff.1 hp
    refine ⟨v.2, mem_visP.2 ⟨x, hx, ?_, hq⟩, hj, hi⟩
    rw [← h1]; exact of_decide_eq_true hm
end
end Go.Proofs.YtbcdimklblpdnaaDoor
