/- Layer 7: plain law: a valid move's text is read as the move. -/
import Derived.Test.YtlnphcdanadaeaaDoorMh
namespace Go.Proofs.YtlnphcdanadaeaaDoor
open Go.RowKit
set_option linter.unusedSimpArgs false
set_option linter.unusedVariables false

theorem cat4 (x y z u : UInt8) : (⟨#[x, y]⟩ : ByteArray) ++ ⟨#[z, u]⟩ = ⟨#[x, y, z, u]⟩ := rfl
theorem cat5 (x y z u c : UInt8) : (⟨#[x, y]⟩ : ByteArray) ++ ⟨#[z, u]⟩ ++ ⟨#[c]⟩ = ⟨#[x, y, z, u, c]⟩ := rfl
theorem pl_lb (p : Int) (h : 2 ≤ p ∧ p ≤ 5) : plV (lb p) = p := by
  rcases (by omega : p = 2 ∨ p = 3 ∨ p = 4 ∨ p = 5) with rfl | rfl | rfl | rfl <;> decide +kernel
theorem mvS_mvT {f r a b p : Int} (h : mvB f r a b p = true) : mvS f r (mvT f a b p) = (true, a, b, p) := by
  obtain ⟨ha, hb, hab, hp⟩ := mvB_out h
  have e1 : rpV f r (nsq f a) = a := rpV_yes ha rfl
  have e2 : rpV f r (nsq f b) = b := rpV_yes hb rfl
  by_cases h0 : p = 0
  · subst h0
    rw [mvT_zero]
    unfold nsq nm at e1 e2 ⊢
    rw [cat4, mvS_4 rfl, (ex4 _ _ _ _).1, (ex4 _ _ _ _).2, e1, e2, h]
  · rw [mvT_pos _ _ _ h0]
    have hpl := pl_lb p (by omega)
    unfold nsq nm at e1 e2 ⊢
    rw [cat5, mvS_5 rfl, (ex5 _ _ _ _ _).1, (ex5 _ _ _ _ _).2.1, e1, e2]
    show (decide (plV (lb p) ≠ 0) && mvB f r a b (plV (lb p)), a, b, plV (lb p)) = _
    rw [hpl, h, decide_eq_true h0]
    rfl
theorem rpV_back {f r : Int} {t : ByteArray} (h : sqB f r (rpV f r t) = true) : nsq f (rpV f r t) = t := by
  unfold rpV at h ⊢
  split at h
  · rename_i k hk
    have hp := List.find?_some hk
    simp only [Bool.and_eq_true, beq_iff_eq] at hp
    exact ba_eq hp.2
  · rw [sqB_neg] at h
    exact absurd h (by decide)
theorem lb_pl : ∀ n : Nat, n < 256 → plV (UInt8.ofNat n) ≠ 0 → lb (plV (UInt8.ofNat n)) = UInt8.ofNat n := by decide +kernel
theorem lb_pl' (c : UInt8) (h : plV c ≠ 0) : lb (plV c) = c := by
  have := lb_pl c.toNat c.toNat_lt
  rw [UInt8.ofNat_toNat] at this
  exact this h
/-- a text that is read is the text of its move -/
theorem mvT_mvS {f r a b p : Int} {s : ByteArray} (h : mvS f r s = (true, a, b, p)) : mvB f r a b p = true ∧ mvT f a b p = s := by
  by_cases h4 : s.size = 4
  · rw [mvS_4 h4] at h
    obtain ⟨x, y, z, u, rfl⟩ := four_of s h4
    rw [(ex4 x y z u).1, (ex4 x y z u).2] at h
    simp only [Prod.mk.injEq] at h
    obtain ⟨h1, rfl, rfl, rfl⟩ := h
    obtain ⟨ha, hb, _, _⟩ := mvB_out h1
    exact ⟨h1, by rw [mvT_zero, rpV_back ha, rpV_back hb, cat4]⟩
  by_cases h5 : s.size = 5
  · rw [mvS_5 h5] at h
    obtain ⟨x, y, z, u, c, rfl⟩ := five_of s h5
    rw [(ex5 x y z u c).1, (ex5 x y z u c).2.1] at h
    simp only [Prod.mk.injEq, Bool.and_eq_true, decide_eq_true_eq] at h
    obtain ⟨⟨h0, h1⟩, rfl, rfl, rfl⟩ := h
    obtain ⟨ha, hb, _, _⟩ := mvB_out h1
    refine ⟨h1, ?_⟩
    rw [mvT_pos _ _ _ h0, rpV_back ha, rpV_back hb]
    have e : lb (plV ((⟨#[x, y, z, u, c]⟩ : ByteArray).data.getD 4 0)) = c := lb_pl' c h0
    rw [e, cat5]
  · rw [mvS_no h4 h5] at h
    simp at h
end Go.Proofs.YtlnphcdanadaeaaDoor
