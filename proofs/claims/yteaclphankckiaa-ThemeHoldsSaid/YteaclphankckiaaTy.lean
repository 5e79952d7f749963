/- Layer 35: the reference's Fits, its walk. -/
import Derived.Test.YteaclphankckiaaTx
import Derived.Deep.DrawnRows
import Derived.Deep.DeepCutAuto
import Derived.Deep.CutRange
namespace Go.Proofs.Yteaclphankckiaa
open Go.RowKit
set_option linter.unusedSimpArgs false
set_option linter.unusedVariables false

theorem rafter_n (A : Option Addr) (l : List Nd) (c n n0 : Nat) (P b : Int) (w : World) (hT : RecAt nEnc 4 w w.heap.size A l) (hn1 : l.length = n) (hl : n ≤ 1000) (hn : n0 ≤ n) (hP0 : 0 ≤ P) (hP1 : P ≤ 100000)
    (hP : n0 = 0 ∧ P = 0 ∨ ∃ (j : Nat) (x : Nd), n0 = j + 1 ∧ l[j]? = some x ∧ x.1 = P) (hb : b = (n0 : Int) - 1) :
    Calls Try.prog 62 #[.slice A n c, .int .i64 b] w (AftP l n0 P w) := by
  subst hn1 hb
  exact rafter A l c n0 P w hT hl hn hP0 hP1 hP
theorem recs_take {α : Type} {f : α → List Value} {size : Nat} {w : World} {B : Nat} {A : Option Addr} {l : List α} (h : RecAt f size w B A l) (k : Nat) : RecAt f size w B A (l.take k) := by
  intro h0
  obtain ⟨b, off, e, hb, hc⟩ := h (by rw [List.length_take] at h0; omega)
  refine ⟨b, off, e, hb, fun j x hj => hc j x ?_⟩
  rw [List.getElem?_take] at hj
  split at hj
  · exact hj
  · cases hj
theorem plyB_or {r : List Nd} {x : Nd} : plyB r x = true ∧ 1 ≤ x.1 ∧ x.1 ≤ top r + 1 ∨ plyB r x = false ∧ (x.1 < 1 ∨ 1 ≤ x.1 ∧ top r + 1 < x.1) := by
  cases h : plyB r x with
  | true =>
    have h2 : 1 ≤ x.1 ∧ x.1 ≤ top r + 1 := of_decide_eq_true h
    exact .inl ⟨rfl, h2.1, h2.2⟩
  | false =>
    have h2 : ¬ (1 ≤ x.1 ∧ x.1 ≤ top r + 1) := of_decide_eq_false h
    exact .inr ⟨rfl, by omega⟩
set_option maxRecDepth 100000 in
set_option maxHeartbeats 2000000 in
theorem rfits_ply (A : Option Addr) (t : List Nd) (c i : Nat) (x : Nd) (w : World) (hT : RecAt nEnc 4 w w.heap.size A t) (hl : t.length ≤ 1000) (hx : t[i]? = some x) (ht0 : 0 ≤ top (back t i)) (ht1 : top (back t i) ≤ 1000) (hp : plyB (back t i) x = false) :
    Calls Try.prog 57 #[.slice A t.length c, .int .i64 (i : Int)] w fun e w' => e = .returned (.bool (fitB (back t i) x)) ∧ Below w.heap.size w w' := by
  have hf : Hid (fitB (back t i) x = false) := by show _ = _; unfold fitB; rw [hp]; rfl
  have hor : x.1 < 1 ∨ 1 ≤ x.1 ∧ top (back t i) + 1 < x.1 := by
    have h2 : ¬ (1 ≤ x.1 ∧ x.1 ≤ top (back t i) + 1) := of_decide_eq_false hp
    omega
  have hil : i < t.length := (List.getElem?_eq_some_iff.1 hx).1
  have hiI : (i : Int) < (t.length : Int) := by omega
  have hi0 : (0 : Int) ≤ (i : Int) := Int.natCast_nonneg _
  obtain ⟨b, off, rfl, hb, e0, _, _, _⟩ := nd4 hT hx
  obtain ⟨p, mm⟩ := x
  have e0' : w.cell? ⟨b, off + i * 4, none⟩ = some (.int .i64 p) := e0
  have hxH := Lib.hid hx
  clear hp e0 hx
  rcases hor with i1 | ⟨i1, i2⟩
  · have i1' : decide (p < 1) = true := decide_eq_true i1
    clear hT
    go_enter Try.func57, Try.ntmps57
    go_wp2_with fail
    go_quiet (fail)
    go_wp2_with fail
    go_ret
    exact ⟨rb hf.out.symm, below_drewN (Below.refl _ _) _⟩
  · have i1' : decide (p < 1) = false := decide_eq_false (by have : (1 : Int) ≤ p := i1; omega)
    rcases Nat.eq_zero_or_pos i with h0 | h0
    · subst h0
      have hp2 : (0 : Int) + 1 < p := i2
      have i3 : (p != 1) = true := by rw [bne_iff_ne]; omega
      have e0'' : w.cell? ⟨b, off, none⟩ = some (.int .i64 p) := by simpa using e0'
      clear hT i2 e0'
      go_enter Try.func57, Try.ntmps57
      go_wp2_with fail
      go_quiet (fail)
      go_wp2_with fail
      go_ret
      exact ⟨rb hf.out.symm, below_drewN (Below.refl _ _) _⟩
    · obtain ⟨j, rfl⟩ : ∃ j, i = j + 1 := ⟨i - 1, by omega⟩
      obtain ⟨z, hz⟩ : ∃ z, t[j]? = some z := ⟨_, List.getElem?_eq_getElem (by omega)⟩
      obtain ⟨b', off', he, _, e1, _, _, _⟩ := nd4 hT hz
      obtain ⟨rfl, rfl⟩ : b' = b ∧ off' = off := by
        simp only [Option.some.injEq, Addr.mk.injEq, and_true] at he
        exact ⟨he.1.symm, he.2.symm⟩
      rw [back_succ hz] at i2 ht0 ht1
      obtain ⟨z1, zm⟩ := z
      have e1' : w.cell? ⟨b', off' + j * 4, none⟩ = some (.int .i64 z1) := e1
      have j0 : (0 : Int) ≤ z1 := ht0
      have j1 : z1 ≤ 1000 := ht1
      have j2 : z1 + 1 < p := i2
      obtain ⟨ii, hii⟩ : ∃ ii : Nat, j + 1 = ii := ⟨_, rfl⟩
      rw [hii] at e0' hiI hi0 hf ⊢
      have hw1 : IntKind.i64.wrap ((ii : Int) - 1) = (j : Int) := by rw [show (ii : Int) - 1 = (j : Int) by omega]; exact IntWalk.i64_in _ (by omega)
      have hw2 : IntKind.i64.wrap (z1 + 1) = z1 + 1 := IntWalk.i64_in _ (by omega)
      have i3 : ((ii : Int) == 0) = false := by rw [beq_eq_false_iff_ne]; omega
      have i4 : decide ((0 : Int) < (ii : Int)) = true := decide_eq_true (by omega)
      have i5 : decide (z1 + 1 < p) = true := decide_eq_true j2
      have hjI : (j : Int) < (t.length : Int) := by omega
      have hj0 : (0 : Int) ≤ (j : Int) := Int.natCast_nonneg _
      have hjt : (j : Int).toNat = j := Int.toNat_natCast j
      have hpos : 0 < ii := by omega
      have i6 : ii ≠ 0 := by omega
      replace hz := Lib.hid hz
      replace hii := Lib.hid hii
      clear hT he e1 i2 ht0 ht1 hxH
      go_enter Try.func57, Try.ntmps57
      go_wp2_with fail
      go_quiet (fail)
      go_wp2_with fail
      go_ret
      exact ⟨rb hf.out.symm, below_drewN (Below.refl _ _) _⟩
end Go.Proofs.Yteaclphankckiaa
