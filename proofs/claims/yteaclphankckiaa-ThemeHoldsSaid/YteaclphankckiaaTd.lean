/- Layer 35: a row of numbers reversed; whether it is the same read backwards. -/
import Derived.Test.YteaclphankckiaaTc
import Derived.Test.YteaclphankckiaaTsh
import Derived.Sort.OwnSortedInts
namespace Go.Proofs.Yteaclphankckiaa
open Go Go.RowKit
set_option linter.unusedSimpArgs false
set_option linter.unusedVariables false

theorem flatI (l : List Int) : flatR iEnc l = l.map (Value.int .i64) := flat1 (f := iEnc) (g := Value.int .i64) (fun _ => rfl) l
theorem preverse (A : Option Addr) (c : Nat) (l : List Int) (base : Nat) (W : World) (ho : Own1 iEnc 1 base 3 W A c l) (hl : l.length ≤ 100000) :
    Calls Try.prog 46 #[.slice A l.length c] W fun e w' => e = .returned (.tuple #[]) ∧ Own1 iEnc 1 base 3 w' A c l.reverse ∧ W.grownBy w' (Value.slice A l.length c).ownBlock := by
  rcases Nat.eq_zero_or_pos l.length with h0 | h0
  · obtain rfl : l = [] := List.eq_nil_of_length_eq_zero h0
    refine (sh_slices_Reverse_int_empty A c W).mono ?_
    rintro e w' ⟨rfl, rfl⟩
    exact ⟨rfl, ho, World.grownBy.refl _ _⟩
  · unfold Own1 at ho
    rw [flatI] at ho
    rcases ho.2 with ⟨_, h1⟩ | ⟨g, cap, cur, hv, hb, hg, h1, h2, h3, h4⟩
    · omega
    · simp only [Value.slice.injEq] at hv
      obtain ⟨rfl, _, rfl⟩ := hv
      have hH := holds_of_blockI (ss := l) hg (by rw [Nat.mul_one] at h4; exact h4)
      refine (sh_slices_Reverse_int g 0 c l W hH (by omega)).mono ?_
      rintro e w' ⟨rfl, n, rfl⟩
      refine ⟨rfl, ?_, ?_⟩
      · have h5 := ownsRow_sortedI (n := n) (os := #[]) (ts := l.reverse) (ss := l) (by simp) hb hg h1 h2 h3
        rw [Go.Sort.grow_empty] at h5
        unfold Own1
        rw [flatI, List.length_reverse]
        exact h5
      · have h6 := grownBy_sortedI (w := W) (g := g) (n := n) (os := #[]) l.reverse.toArray
        rw [Go.Sort.grow_empty] at h6
        exact h6
/-- the same read backwards -/
def pal (l : List Int) : Bool := decide (l = l.reverse)
theorem recs_getD {W : World} {B b off : Nat} {l : List Int} (h : RecAt iEnc 1 W B (some ⟨b, off, none⟩) l) : ∀ j, j < l.length → W.cell? ⟨b, off + j, none⟩ = some (.int .i64 (l.getD j 0)) := by
  intro j hj
  obtain ⟨b', off', e, _, hc⟩ := rec1 h (List.getElem?_eq_getElem hj)
  simp only [Option.some.injEq, Addr.mk.injEq, and_true] at e
  obtain ⟨rfl, rfl⟩ := e
  rw [hc, List.getD, List.getElem?_eq_getElem hj]
  rfl
set_option maxRecDepth 100000 in
set_option maxHeartbeats 1000000 in
theorem psame (A : Option Addr) (c : Nat) (l : List Int) (w : World) (hA : RecAt iEnc 1 w w.heap.size A l) (hl : l.length ≤ 1000) (h0 : 0 < l.length) :
    Calls Try.prog 36 #[.slice A l.length c] w fun e w' => e = .returned (.bool (pal l)) ∧ Below w.heap.size w w' := by
  obtain ⟨b, off, rfl, hb, _⟩ := hA h0
  have hc := recs_getD hA
  have hcl : Hid (Calls Try.prog 48 #[.slice (some ⟨b, off, none⟩) l.length c] w fun e w' => ∃ A2 c2, e = .returned (.slice A2 l.length c2) ∧ Own1 iEnc 1 w.heap.size 3 w' A2 c2 l ∧ Below w.heap.size w w') := by
    refine (sh_slices_Clone_int b off l.length c l w (Nat.le_refl _) (by omega) hc).mono ?_
    rintro e w' ⟨v', rfl, ho, _, hbl⟩
    rw [List.take_length] at ho
    rcases ho.2 with ⟨_, h1⟩ | ⟨g, cap, cur, rfl, _⟩
    · omega
    · refine ⟨_, _, rfl, ?_, hbl⟩
      unfold Own1
      rw [flatI]
      exact ho
  have hAH := Lib.hid hA
  replace hc := Lib.hid hc
  clear hA
  go_enter Try.func36, Try.ntmps36
  go_wp2_with (first
    | (go_at_call 48; refine hcl.out.mono ?_; rintro e w1 ⟨A2, c2, rfl, ho, hb1⟩; replace ho := Lib.hid ho; replace hb1 := Lib.hid hb1)
    | (go_at_call 46; refine (preverse _ _ _ _ _ ho.out (by omega)).mono ?_; rintro e w2 ⟨rfl, ho2, hg⟩; replace hb1 := Lib.hid (hb1.out.grown hg hb1.out.size (fun k hk => (World.ownsRow.lt ho.out k hk).1)); replace ho2 := Lib.hid ho2; clear hg ho))
  go_at_call 49
  obtain ⟨b2, o2, rfl, hb2, _⟩ := (RecAt.of_own iEnc_len rfl ho2.out) (by rw [List.length_reverse]; exact h0)
  refine (sh_slices_Equal_int b off l.length c b2 o2 l.length c2 l l.reverse w2 (Nat.le_refl _) (by rw [List.length_reverse]; exact Nat.le_refl _) (by omega) (by omega) (fun j hj => (hb1.out.cell (p := ⟨b, off + j, none⟩) hb).trans (hc.out j hj)) (recs_getD (RecAt.of_own iEnc_len rfl ho2.out))).mono ?_
  rintro e w3 ⟨rfl, q, rfl⟩
  go_wp2_with fail
  go_ret
  refine ⟨rb ?_, below_drewN hb1.out q⟩
  rw [List.take_of_length_le (l := l.reverse) (by rw [List.length_reverse]; exact Nat.le_refl _)]
  unfold pal
  rw [Bool.eq_iff_iff, beq_iff_eq, decide_eq_true_iff]
end Go.Proofs.Yteaclphankckiaa
