/- Layer 43: the program's Valid: plain laws. -/
import Derived.Test.YtjjjdoealagpcaaDoorGg
import Derived.Test.YtjjjdoealagpcaaDoorGh
namespace Go.Proofs.YtjjjdoealagpcaaDoor
open Go Go.RowKit Go.Maps
set_option linter.unusedSimpArgs false
set_option linter.unusedVariables false
/-- the numbers met up to place K: but for the others' lists -/
def numsOk (l : List Ent) (i : Nat) (x : Ent) (K : Nat) : Prop := ∀ (k : Nat) (n : Int), k < K → x.met[k]? = some n → numIn l i x k n
def rowB (l : List Ent) (i : Nat) (x : Ent) : Prop := entOk x ∧ namesOk l i x i ∧ numsOk l i x x.met.length
def upToB (l : List Ent) (K : Nat) : Prop := ∀ (i : Nat) (x : Ent), i < K → l[i]? = some x → rowB l i x
theorem numsOk.succ {l : List Ent} {i k : Nat} {x : Ent} {n : Int} (h : numsOk l i x k) (hn : x.met[k]? = some n) (h1 : numIn l i x k n) : numsOk l i x (k + 1) := by
  intro j m hj hm
  by_cases hjk : j < k
  · exact h j m hjk hm
  · obtain rfl : j = k := by omega
    rw [hn] at hm
    rw [← Option.some.inj hm]; exact h1
theorem upToB.succ {l : List Ent} {k : Nat} {x : Ent} (h : upToB l k) (hx : l[k]? = some x) (hr : rowB l k x) : upToB l (k + 1) := by
  intro j z hj hz
  by_cases hjk : j < k
  · exact h j z hjk hz
  · obtain rfl : j = k := by omega
    rw [hx] at hz
    rw [← Option.some.inj hz]; exact hr
theorem fB_noB {l : List Ent} {i : Nat} {x : Ent} (hx : l[i]? = some x) (h : ¬ rowB l i x) : fB l = false := fB_no hx fun hh => h ⟨hh.1, hh.2.1, fun k n hk hn => (hh.2.2 k n hk hn).1⟩
/-- the pairs of the first K entrants -/
def inM (l : List Ent) (K : Nat) (p : Int × Int) : Prop := ∃ (i : Nat) (x : Ent) (j : Nat), i < K ∧ l[i]? = some x ∧ x.met[j]? = some p.2 ∧ p.1 = (i : Int)
def inR (k : Nat) (x : Ent) (m : Nat) (p : Int × Int) : Prop := ∃ j, j < m ∧ x.met[j]? = some p.2 ∧ p.1 = (k : Int)
theorem inM_zero (l : List Ent) (p : Int × Int) : ¬ inM l 0 p := fun ⟨i, _, _, h, _⟩ => absurd h (Nat.not_lt_zero _)
theorem inR_zero (k : Nat) (x : Ent) (p : Int × Int) : ¬ inR k x 0 p := fun ⟨i, h, _⟩ => absurd h (Nat.not_lt_zero _)
theorem inR_succ {k m : Nat} {x : Ent} {n : Int} (hn : x.met[m]? = some n) (p : Int × Int) : inR k x (m + 1) p ↔ p = ((k : Int), n) ∨ inR k x m p := by
  constructor
  · rintro ⟨j, hj, h1, h2⟩
    by_cases hjm : j < m
    · exact Or.inr ⟨j, hjm, h1, h2⟩
    · obtain rfl : j = m := by omega
      rw [hn] at h1
      left
      obtain ⟨a, b⟩ := p
      simp only at h1 h2
      rw [h2, Option.some.inj h1]
  · rintro (rfl | ⟨j, hj, h1, h2⟩)
    · exact ⟨m, by omega, hn, rfl⟩
    · exact ⟨j, by omega, h1, h2⟩
theorem inM_succ {l : List Ent} {k : Nat} {x : Ent} (hx : l[k]? = some x) (p : Int × Int) : inM l (k + 1) p ↔ inM l k p ∨ inR k x x.met.length p := by
  constructor
  · rintro ⟨i, y, j, hi, hy, h1, h2⟩
    by_cases hik : i < k
    · exact Or.inl ⟨i, y, j, hik, hy, h1, h2⟩
    · obtain rfl : i = k := by omega
      rw [hx] at hy
      obtain rfl := Option.some.inj hy
      exact Or.inr ⟨j, (List.getElem?_eq_some_iff.1 h1).1, h1, h2⟩
  · rintro (⟨i, y, j, hi, hy, h1, h2⟩ | ⟨j, hj, h1, h2⟩)
    · exact ⟨i, y, j, by omega, hy, h1, h2⟩
    · exact ⟨k, x, j, by omega, hx, h1, h2⟩
theorem memI_iff {l : List Int} {n : Int} : memI l n = true ↔ ∃ j : Nat, l[j]? = some n := by
  unfold memI
  rw [List.any_eq_true]
  constructor
  · rintro ⟨x, hx, hn⟩
    obtain rfl := beq_iff_eq.1 hn
    obtain ⟨j, hj, e⟩ := List.getElem_of_mem hx
    exact ⟨j, by rw [List.getElem?_eq_getElem hj, e]⟩
  · rintro ⟨j, hj⟩
    exact ⟨n, List.mem_of_getElem? hj, beq_self_eq_true n⟩
/-- the other's list, as pairs -/
theorem metOf_inM {l : List Ent} {i : Nat} {n : Int} (h0 : 0 ≤ n) (h1 : n < l.length) : memI (metOf l n) i = true ↔ inM l l.length (n, (i : Int)) := by
  obtain ⟨N, rfl⟩ := Int.eq_ofNat_of_zero_le h0
  obtain ⟨y, hy⟩ : ∃ y, l[N]? = some y := ⟨_, List.getElem?_eq_getElem (by omega)⟩
  have e : metOf l (N : Int) = y.met := by unfold metOf; rw [Int.toNat_natCast, hy]; rfl
  rw [e, memI_iff]
  constructor
  · rintro ⟨j, hj⟩
    exact ⟨N, y, j, by omega, hy, hj, rfl⟩
  · rintro ⟨i', y', j, _, hy', hj, hi⟩
    simp only at hj hi
    obtain rfl : N = i' := by omega
    rw [hy] at hy'
    obtain rfl := Option.some.inj hy'
    exact ⟨j, hj⟩
theorem fB_yesM {l : List Ent} (h2 : 2 ≤ l.length) (h12 : l.length ≤ 12) (hg : upToB l l.length) (hm : ∀ p, inM l l.length p → inM l l.length (p.2, p.1)) : fB l = true := by
  refine fB_true ⟨h2, h12, fun i x hi hx => ?_⟩
  obtain ⟨r1, r2, r3⟩ := hg i x hi hx
  refine ⟨r1, r2, fun k n hk hn => ⟨r3 k n hk hn, ?_⟩⟩
  have hin := r3 k n hk hn
  exact (metOf_inM hin.1 hin.2.1).2 (hm ((i : Int), n) ⟨i, x, k, hi, hx, hn, rfl⟩)
theorem fB_noM {l : List Ent} {p : Int × Int} (hp : inM l l.length p) (hn : ¬ inM l l.length (p.2, p.1)) : fB l = false := by
  obtain ⟨i, x, j, hi, hx, h1, h2⟩ := hp
  refine fB_no hx fun hr => hn ?_
  have h3 := hr.2.2 j p.2 (List.getElem?_eq_some_iff.1 h1).1 h1
  rw [h2]
  exact (metOf_inM h3.1.1 h3.1.2.1).1 h3.2
/-- pairs that are in are small -/
theorem inM_bd {l : List Ent} {K : Nat} (hg : upToB l K) {p : Int × Int} (hp : inM l K p) : 0 ≤ p.1 ∧ p.1 < l.length ∧ 0 ≤ p.2 ∧ p.2 < l.length := by
  obtain ⟨i, x, j, hi, hx, h1, h2⟩ := hp
  have hil := (List.getElem?_eq_some_iff.1 hx).1
  have h3 := (hg i x hi hx).2.2 j p.2 (List.getElem?_eq_some_iff.1 h1).1 h1
  exact ⟨by omega, by omega, h3.1, h3.2.1⟩
theorem ent_badB {x : Ent} (h : ¬ entOk x) : PC.givV x.name = false ∨ PC.givV x.name = true ∧ (inB x.rating 0 4000 = false ∨ inB x.rating 0 4000 = true ∧ (inB x.score 0 1000 = false ∨ inB x.score 0 1000 = true ∧ (inB x.whites 0 1000 = false ∨ inB x.whites 0 1000 = true ∧ (inB x.blacks 0 1000 = false ∨ inB x.blacks 0 1000 = true ∧ inB x.last 0 2 = false)))) := by
  have hi : ∀ n a b : Int, inB n a b = true ↔ a ≤ n ∧ n ≤ b := fun n a b => by unfold inB; rw [Bool.and_eq_true, decide_eq_true_iff, decide_eq_true_iff]
  cases h0 : PC.givV x.name with
  | false => exact Or.inl rfl
  | true =>
    refine Or.inr ⟨rfl, ?_⟩
    cases h1 : inB x.rating 0 4000 with
    | false => exact Or.inl rfl
    | true =>
      refine Or.inr ⟨rfl, ?_⟩
      cases h2 : inB x.score 0 1000 with
      | false => exact Or.inl rfl
      | true =>
        refine Or.inr ⟨rfl, ?_⟩
        cases h3 : inB x.whites 0 1000 with
        | false => exact Or.inl rfl
        | true =>
          refine Or.inr ⟨rfl, ?_⟩
          cases h4 : inB x.blacks 0 1000 with
          | false => exact Or.inl rfl
          | true =>
            refine Or.inr ⟨rfl, ?_⟩
            cases h5 : inB x.last 0 2 with
            | false => rfl
            | true => exact absurd ⟨h0, (hi _ _ _).1 h1, (hi _ _ _).1 h2, (hi _ _ _).1 h3, (hi _ _ _).1 h4, (hi _ _ _).1 h5⟩ h
theorem ent_goodB {x : Ent} (h : entOk x) : PC.givV x.name = true ∧ inB x.rating 0 4000 = true ∧ inB x.score 0 1000 = true ∧ inB x.whites 0 1000 = true ∧ inB x.blacks 0 1000 = true ∧ inB x.last 0 2 = true := by
  have hi : ∀ n a b : Int, inB n a b = true ↔ a ≤ n ∧ n ≤ b := fun n a b => by unfold inB; rw [Bool.and_eq_true, decide_eq_true_iff, decide_eq_true_iff]
  exact ⟨h.1, (hi _ _ _).2 h.2.1, (hi _ _ _).2 h.2.2.1, (hi _ _ _).2 h.2.2.2.1, (hi _ _ _).2 h.2.2.2.2.1, (hi _ _ _).2 h.2.2.2.2.2⟩
theorem inB_yes {n a b : Int} (h : a ≤ n) (h2 : n ≤ b) : inB n a b = true := by unfold inB; rw [decide_eq_true h, decide_eq_true h2]; rfl
theorem inB_no {n a b : Int} (h : n < a ∨ b < n) : inB n a b = false := by
  unfold inB
  rcases h with h | h
  · rw [decide_eq_false (show ¬ a ≤ n by omega)]; rfl
  · rw [decide_eq_false (show ¬ n ≤ b by omega), Bool.and_false]
theorem KE.of_block {w w' : World} {B : Nat} {x : Ent} (h : KE w B x) (hb : w'.heap[B]? = w.heap[B]?) (hs : w.heap.size ≤ w'.heap.size) : KE w' B x :=
  ⟨(World.cell?_of_block hb).trans h.c0, (World.cell?_of_block hb).trans h.c1, (World.cell?_of_block hb).trans h.c2, (World.cell?_of_block hb).trans h.c3, (World.cell?_of_block hb).trans h.c4, (World.cell?_of_block hb).trans h.c5, (World.cell?_of_block hb).trans h.c6, (World.cell?_of_block hb).trans h.c7, Nat.lt_of_lt_of_le h.lt hs⟩
theorem below_len {w : World} {B : Nat} {A : Option Addr} {l : List Ent} (h : RecAt eEnc 8 w B A l) (k : Nat) : RecAt eEnc 8 w B A (l.take k) := by
  intro h0
  obtain ⟨b, off, e, hb, hc⟩ := h (by rw [List.length_take] at h0; omega)
  refine ⟨b, off, e, hb, fun j x hx i u hu => hc j x ?_ i u hu⟩
  rw [List.getElem?_take] at hx
  split at hx
  · exact hx
  · cases hx
end Go.Proofs.YtjjjdoealagpcaaDoor
