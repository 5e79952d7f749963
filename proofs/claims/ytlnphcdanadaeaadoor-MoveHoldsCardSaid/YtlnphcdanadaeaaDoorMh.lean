/- Layer 7: the move with a text: the program's and the reference's, any text. -/
import Derived.Test.YtlnphcdanadaeaaDoorMg
namespace Go.Proofs.YtlnphcdanadaeaaDoor
open Go.RowKit
set_option linter.unusedSimpArgs false
set_option linter.unusedVariables false

/-- two bytes: a square's name, or not -/
theorem sqp_of (f r : Int) (x y : UInt8) (hs : szB f r = true) :
    (∃ n, sqB f r n = true ∧ rpV f r ⟨#[x, y]⟩ = n ∧ SqP f r ⟨#[x, y]⟩ n 0) ∨ (rpV f r ⟨#[x, y]⟩ = -1 ∧ SqP f r ⟨#[x, y]⟩ 0 6) := by
  have h0 : 0 < (⟨#[x, y]⟩ : ByteArray).size := by show 0 < 2; omega
  have h1 : 1 < (⟨#[x, y]⟩ : ByteArray).size := by show 1 < 2; omega
  have hl : (⟨#[x, y]⟩ : ByteArray).size ≤ 2 := by show 2 ≤ 2; omega
  rcases hob : onB f r ((x.toNat : Int) - 97) ((y.toNat : Int) - 49) with _ | _
  · refine .inr ⟨rpV_no fun n hn e => ?_, fun W => pparse_no f r ⟨#[x, y]⟩ W hs h0 h1 hl hob⟩
    have hp := place_bd hn
    obtain ⟨f0, f1, r0, r1⟩ := szB_out hs
    have ho := nm_out h0 h1 ⟨hp.1, by omega⟩ ⟨hp.2.2.1, by omega⟩ e
    have h2 := sq_on hn
    rw [ho.1, ho.2] at h2
    exact absurd (hob.symm.trans h2) (by decide)
  · obtain ⟨hn, h2, h3⟩ := on_sq hs hob
    have hnm : nm (((x.toNat : Int) - 97 + ((y.toNat : Int) - 49) * f) % f) (((x.toNat : Int) - 97 + ((y.toNat : Int) - 49) * f) / f) = ⟨#[x, y]⟩ := by rw [h2, h3]; exact nm_of x y
    refine .inl ⟨_, hn, rpV_yes hn hnm, fun W => ?_⟩
    have := pparse_nm f r _ W hn
    rw [hnm] at this
    exact this
/-- the move with a text: whether there is one, and its parts -/
def mvS (f r : Int) (s : ByteArray) : Bool × Int × Int × Int :=
  if s.size = 4 then (mvB f r (rpV f r (s.extract 0 2)) (rpV f r (s.extract 2 4)) 0, rpV f r (s.extract 0 2), rpV f r (s.extract 2 4), 0)
  else if s.size = 5 then (decide (plV (s.data.getD 4 0) ≠ 0) && mvB f r (rpV f r (s.extract 0 2)) (rpV f r (s.extract 2 4)) (plV (s.data.getD 4 0)), rpV f r (s.extract 0 2), rpV f r (s.extract 2 4), plV (s.data.getD 4 0))
  else (false, 0, 0, 0)
theorem mvS_no {f r : Int} {s : ByteArray} (h4 : s.size ≠ 4) (h5 : s.size ≠ 5) : mvS f r s = (false, 0, 0, 0) := by unfold mvS; rw [if_neg h4, if_neg h5]
theorem mvS_4 {f r : Int} {s : ByteArray} (h4 : s.size = 4) : mvS f r s = (mvB f r (rpV f r (s.extract 0 2)) (rpV f r (s.extract 2 4)) 0, rpV f r (s.extract 0 2), rpV f r (s.extract 2 4), 0) := by unfold mvS; rw [if_pos h4]
theorem mvS_5 {f r : Int} {s : ByteArray} (h5 : s.size = 5) : mvS f r s = (decide (plV (s.data.getD 4 0) ≠ 0) && mvB f r (rpV f r (s.extract 0 2)) (rpV f r (s.extract 2 4)) (plV (s.data.getD 4 0)), rpV f r (s.extract 0 2), rpV f r (s.extract 2 4), plV (s.data.getD 4 0)) := by
  unfold mvS; rw [if_neg (by omega), if_pos h5]
theorem four_of (s : ByteArray) (h : s.size = 4) : ∃ x y z u, s = ⟨#[x, y, z, u]⟩ := by
  obtain ⟨⟨l⟩⟩ := s
  match l, h with
  | [x, y, z, u], _ => exact ⟨x, y, z, u, rfl⟩
theorem five_of (s : ByteArray) (h : s.size = 5) : ∃ x y z u c, s = ⟨#[x, y, z, u, c]⟩ := by
  obtain ⟨⟨l⟩⟩ := s
  match l, h with
  | [x, y, z, u, c], _ => exact ⟨x, y, z, u, c, rfl⟩
theorem ex4 (x y z u : UInt8) : (⟨#[x, y, z, u]⟩ : ByteArray).extract 0 2 = ⟨#[x, y]⟩ ∧ (⟨#[x, y, z, u]⟩ : ByteArray).extract 2 4 = ⟨#[z, u]⟩ := ⟨ba_eq (by rw [ByteArray.data_extract]; rfl), ba_eq (by rw [ByteArray.data_extract]; rfl)⟩
theorem ex5 (x y z u c : UInt8) : (⟨#[x, y, z, u, c]⟩ : ByteArray).extract 0 2 = ⟨#[x, y]⟩ ∧ (⟨#[x, y, z, u, c]⟩ : ByteArray).extract 2 4 = ⟨#[z, u]⟩ ∧ (⟨#[x, y, z, u, c]⟩ : ByteArray).extract 4 5 = ⟨#[c]⟩ := ⟨ba_eq (by rw [ByteArray.data_extract]; rfl), ba_eq (by rw [ByteArray.data_extract]; rfl), ba_eq (by rw [ByteArray.data_extract]; rfl)⟩
theorem sqB_neg {f r : Int} : sqB f r (-1) = false := by
  cases h : sqB f r (-1) with
  | false => rfl
  | true => have := (sqB_out h).2.1; omega
/-- what a byte stands for as a promotion -/
theorem pl_par : ∀ n : Nat, n < 256 → plV (UInt8.ofNat n) = if 2 ≤ PC.parV (n : Int) ∧ PC.parV (n : Int) ≤ 5 then PC.parV (n : Int) else 0 := by decide +kernel
theorem pl_par' (c : UInt8) : plV c = if 2 ≤ PC.parV (c.toNat : Int) ∧ PC.parV (c.toNat : Int) ≤ 5 then PC.parV (c.toNat : Int) else 0 := by
  have := pl_par c.toNat c.toNat_lt
  rw [UInt8.ofNat_toNat] at this
  exact this
theorem mres_no (a b p a' b' p' : Int) : mres false a b p = mres false a' b' p' := rfl
/-- the program's Parse at two squares that may lack -/
theorem mok_link {f r a b A B E1 E2 p : Int} (h1 : (sqB f r a = true ∧ A = a ∧ E1 = 0) ∨ (a = -1 ∧ E1 = 6)) (h2 : (sqB f r b = true ∧ B = b ∧ E2 = 0) ∨ (b = -1 ∧ E2 = 6)) : mres (mok f r A B p E1 E2 0) A B p = mres (mvB f r a b p) a b p := by
  rcases h1 with ⟨_, rfl, rfl⟩ | ⟨rfl, rfl⟩
  · rcases h2 with ⟨_, rfl, rfl⟩ | ⟨rfl, rfl⟩
    · rw [mok_v ⟨rfl, rfl, rfl⟩]
    · rw [mok_e (by omega), mvB_b sqB_neg]; rfl
  · rw [mok_e (by omega), mvB_a sqB_neg]; rfl
theorem pmp (f r : Int) (s : ByteArray) (w : World) (hs : szB f r = true) (hm : s.size ≤ maxLen) (hk : PC.KindsAt w) (hpos : 0 < w.heap.size) : Calls Tryd.prog 13 #[.agg #[.int .i64 f, .int .i64 r], .string s] w fun e w' => e = .returned (mres (mvS f r s).1 (mvS f r s).2.1 (mvS f r s).2.2.1 (mvS f r s).2.2.2) ∧ Below w.heap.size w w' := by
  by_cases h4 : s.size = 4
  · rw [mvS_4 h4]
    obtain ⟨x, y, z, u, rfl⟩ := four_of s h4
    obtain ⟨e1, e2⟩ := ex4 x y z u
    rw [e1, e2]
    obtain ⟨A, E1, P1, l1⟩ : ∃ A E1, SqP f r ⟨#[x, y]⟩ A E1 ∧ ((sqB f r (rpV f r ⟨#[x, y]⟩) = true ∧ A = rpV f r ⟨#[x, y]⟩ ∧ E1 = 0) ∨ (rpV f r ⟨#[x, y]⟩ = -1 ∧ E1 = 6)) := by
      rcases sqp_of f r x y hs with ⟨n, h1, h2, h3⟩ | ⟨h1, h2⟩
      · exact ⟨n, 0, h3, .inl ⟨by rw [h2]; exact h1, h2.symm, rfl⟩⟩
      · exact ⟨0, 6, h2, .inr ⟨h1, rfl⟩⟩
    obtain ⟨B, E2, P2, l2⟩ : ∃ A E1, SqP f r ⟨#[z, u]⟩ A E1 ∧ ((sqB f r (rpV f r ⟨#[z, u]⟩) = true ∧ A = rpV f r ⟨#[z, u]⟩ ∧ E1 = 0) ∨ (rpV f r ⟨#[z, u]⟩ = -1 ∧ E1 = 6)) := by
      rcases sqp_of f r z u hs with ⟨n, h1, h2, h3⟩ | ⟨h1, h2⟩
      · exact ⟨n, 0, h3, .inl ⟨by rw [h2]; exact h1, h2.symm, rfl⟩⟩
      · exact ⟨0, 6, h2, .inr ⟨h1, rfl⟩⟩
    refine (pmp4 f r A B E1 E2 _ _ _ w hs h4 e1 e2 P1 P2).mono ?_
    rintro e w' ⟨rfl, hb⟩
    exact ⟨congrArg Ending.returned (mok_link l1 l2), hb⟩
  by_cases h5 : s.size = 5
  · rw [mvS_5 h5]
    obtain ⟨x, y, z, u, c, rfl⟩ := five_of s h5
    obtain ⟨e1, e2, e3⟩ := ex5 x y z u c
    rw [e1, e2]
    obtain ⟨A, E1, P1, l1⟩ : ∃ A E1, SqP f r ⟨#[x, y]⟩ A E1 ∧ ((sqB f r (rpV f r ⟨#[x, y]⟩) = true ∧ A = rpV f r ⟨#[x, y]⟩ ∧ E1 = 0) ∨ (rpV f r ⟨#[x, y]⟩ = -1 ∧ E1 = 6)) := by
      rcases sqp_of f r x y hs with ⟨n, h1, h2, h3⟩ | ⟨h1, h2⟩
      · exact ⟨n, 0, h3, .inl ⟨by rw [h2]; exact h1, h2.symm, rfl⟩⟩
      · exact ⟨0, 6, h2, .inr ⟨h1, rfl⟩⟩
    obtain ⟨B, E2, P2, l2⟩ : ∃ A E1, SqP f r ⟨#[z, u]⟩ A E1 ∧ ((sqB f r (rpV f r ⟨#[z, u]⟩) = true ∧ A = rpV f r ⟨#[z, u]⟩ ∧ E1 = 0) ∨ (rpV f r ⟨#[z, u]⟩ = -1 ∧ E1 = 6)) := by
      rcases sqp_of f r z u hs with ⟨n, h1, h2, h3⟩ | ⟨h1, h2⟩
      · exact ⟨n, 0, h3, .inl ⟨by rw [h2]; exact h1, h2.symm, rfl⟩⟩
      · exact ⟨0, 6, h2, .inr ⟨h1, rfl⟩⟩
    have hc : (0 : Int) ≤ (c.toNat : Int) ∧ (c.toNat : Int) ≤ 255 := ⟨by omega, by have := c.toNat_lt; omega⟩
    refine (pmp5 f r A B E1 E2 (PC.parV (c.toNat : Int)) (PC.noE (PC.parV (c.toNat : Int))) _ _ _ w hs h5 e1 e2 P1 P2 (by show 4 < 5; omega) (fun W hb => PC.pparse _ W (hk.below hpos hb) hc.1 hc.2)).mono ?_
    rintro e w' ⟨rfl, hb⟩
    refine ⟨congrArg Ending.returned ?_, hb⟩
    show _ = mres (decide (plV c ≠ 0) && mvB f r (rpV f r ⟨#[x, y]⟩) (rpV f r ⟨#[z, u]⟩) (plV c)) (rpV f r ⟨#[x, y]⟩) (rpV f r ⟨#[z, u]⟩) (plV c)
    rw [pl_par' c]
    generalize PC.parV (c.toNat : Int) = p
    by_cases hp : 2 ≤ p ∧ p ≤ 5
    · rw [if_pos hp, decide_eq_true (by omega), Bool.true_and, PC.noE_of (by omega)]
      exact mok_link l1 l2
    · rw [if_neg hp, decide_eq_false (by simp)]
      by_cases hp0 : p = 0
      · subst hp0
        rw [mok_e (by rw [PC.noE_zero]; omega)]; rfl
      · rw [PC.noE_of hp0, mok_link l1 l2, mvB_no (by omega)]; rfl
  · rw [mvS_no h4 h5]
    exact pmp_len f r s w hs h4 h5 hm
theorem rmp (f r : Int) (s : ByteArray) (w : World) (hs : szB f r = true) (hm : s.size ≤ maxLen) : Calls Tryd.prog 15 #[.agg #[.int .i64 f, .int .i64 r], .string s] w fun e w' => e = .returned (rres (mvS f r s).1 (mvS f r s).2.1 (mvS f r s).2.2.1 (mvS f r s).2.2.2) ∧ Below w.heap.size w w' := by
  by_cases h4 : s.size = 4
  · rw [mvS_4 h4]
    exact rmp4 f r _ _ s _ _ w hs h4 rfl rfl rfl rfl
  by_cases h5 : s.size = 5
  · rw [mvS_5 h5]
    refine rmp5 f r _ _ s _ _ w hs h5 rfl rfl rfl rfl _ ?_
    obtain ⟨x, y, z, u, c, rfl⟩ := five_of s h5
    exact (ex5 x y z u c).2.2
  · rw [mvS_no h4 h5]
    exact rmp_len f r s w (by omega) hm
end Go.Proofs.YtlnphcdanadaeaaDoor
