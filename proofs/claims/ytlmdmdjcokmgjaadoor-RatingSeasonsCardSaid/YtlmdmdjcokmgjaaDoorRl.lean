/- Layer 45: the laws on the expectation and on the performance, walked. -/
import Derived.Test.YtlmdmdjcokmgjaaDoorRk
namespace Go.Proofs.YtlmdmdjcokmgjaaDoor
open Go.RowKit
set_option linter.unusedSimpArgs false
set_option linter.unusedVariables false

theorem inB_or (x a b : Int) : (a ≤ x ∧ x ≤ b ∧ inB x a b = true) ∨ inB x a b = false := by
  by_cases h : a ≤ x ∧ x ≤ b
  · exact .inl ⟨h.1, h.2, inB_yes h.1 h.2⟩
  · exact .inr (inB_no (by omega))

set_option maxHeartbeats 1000000 in
theorem law_expects (a b : Int) (w : World) (hl : LimsAt w) : Calls Tryd.prog 3 #[.int .i64 a, .int .i64 b] w fun e w' => e = .returned (.bool true) ∧ Below w.heap.size w w' := by
  have hpos := hl.pos
  have hlH := Lib.hid hl
  clear hl
  rcases inB_or a 0 4000 with ⟨a0, a1, ha⟩ | ha
  · rcases inB_or b 0 4000 with ⟨b0, b1, hb⟩ | hb
    · go_enter Tryd.func3, Tryd.ntmps3
      go_wp2_with (first
        | (go_at_call 8; refine (pExpect_yes _ _ _ hlH.out a0 a1 b0 b1).mono ?_; rintro e w' ⟨rfl, rfl⟩)
        | (go_at_call 9; refine (rrat _ _).mono ?_; rintro e w' ⟨rfl, rfl⟩)
        | (go_at_call 11; refine (rexp _ _ _ a0 a1 b0 b1).mono ?_; rintro e w' ⟨rfl, rfl⟩)
        | (go_at_call 10; refine (pknown _ (hlH.out.below hpos ((Below.refl _ _).alloc (Nat.le_refl _) _))).mono ?_; rintro e w' ⟨rfl, hb⟩))
      go_ret
      exact ⟨rfl, ((Below.refl _ _).alloc (Nat.le_refl _) _).trans (hb.mono (by simp))⟩
    · go_enter Tryd.func3, Tryd.ntmps3
      go_wp2_with (first
        | (go_at_call 8; refine (pExpect_no _ _ _ (.inr hb)).mono ?_; rintro e w' ⟨rfl, rfl⟩)
        | (go_at_call 9; refine (rrat _ _).mono ?_; rintro e w' ⟨rfl, rfl⟩)
        | (go_at_call 10; refine (pknown _ hlH.out).mono ?_; rintro e w' ⟨rfl, hb⟩))
      go_ret
      exact ⟨rfl, hb⟩
  · go_enter Tryd.func3, Tryd.ntmps3
    go_wp2_with (first
      | (go_at_call 8; refine (pExpect_no _ _ _ (.inl ha)).mono ?_; rintro e w' ⟨rfl, rfl⟩)
      | (go_at_call 9; refine (rrat _ _).mono ?_; rintro e w' ⟨rfl, rfl⟩)
      | (go_at_call 10; refine (pknown _ hlH.out).mono ?_; rintro e w' ⟨rfl, hb⟩))
    go_ret
    exact ⟨rfl, hb⟩

set_option maxHeartbeats 2000000 in
theorem law_performs (A : Option Addr) (l : List (Int × Int)) (c : Nat) (w : World) (hl : LimsAt w) (hg : GamesAt w w.heap.size A l) (hm : l.length ≤ maxLen) : Calls Tryd.prog 5 #[.slice A l.length c] w fun e w' => e = .returned (.bool true) ∧ Below w.heap.size w w' := by
  have hpos := hl.pos
  have hlH := Lib.hid hl
  have hgH := Lib.hid hg
  have hmH := Lib.hid hm
  have hm' := hm
  unfold maxLen at hm'
  clear hl hg hm
  by_cases h20 : 20 < l.length ∧ l.length ≠ 201
  · obtain ⟨h20, h201⟩ := h20
    have h201b : ((l.length : Int) != 201) = true := by simp; omega
    clear h201
    go_enter Tryd.func5, Tryd.ntmps5
    go_wp2_with (go_at_call 10; refine (pknown _ hlH.out).mono ?_; rintro e w' ⟨rfl, hb⟩)
    go_ret
    exact ⟨rfl, hb⟩
  · have hlen : l.length ≤ 20 ∨ (20 < l.length ∧ ((l.length : Int) != 201) = false) := by
      by_cases h : l.length ≤ 20
      · exact .inl h
      · exact .inr ⟨by omega, by simp; omega⟩
    clear h20
    cases hv : vldG l
    · rcases hlen with hlen | ⟨hlen, h201⟩
      all_goals
        go_enter Tryd.func5, Tryd.ntmps5
        go_wp2_with (first
          | (go_at_call 17; refine (pPerf_no _ _ _ _ hgH.out hmH.out hv).mono ?_; rintro e w1 ⟨rfl, hb1⟩)
          | (go_at_call 14; refine (rvalid _ _ _ _ ((hgH.out.below (Nat.le_refl _) hb1).more hb1.size) hmH.out).mono ?_; rintro e w' ⟨rfl, rfl⟩)
          | (go_at_call 10; refine (pknown _ (hlH.out.below hpos hb1)).mono ?_; rintro e w2 ⟨rfl, hb2⟩))
        go_ret
        exact ⟨rfl, hb1.trans (hb2.mono hb1.size)⟩
    · have h200 := (vldG_out hv).2
      rcases hlen with hlen | ⟨hlen, h201⟩
      · rcases Nat.eq_zero_or_pos l.length with h0 | h0
        · have hl0 : l = [] := List.eq_nil_of_length_eq_zero h0
          subst hl0
          have hv0 := hv
          clear h0
          go_enter Tryd.func5, Tryd.ntmps5
          go_wp2_with (first
            | (go_at_call 17; refine (pPerf_nil _ _ _).mono ?_; rintro e w1 ⟨rfl, hb1⟩)
            | (go_at_call 14; refine (rvalid _ [] _ _ (fun h => absurd h (by simp)) (by simp)).mono ?_; rintro e w' ⟨rfl, rfl⟩)
            | (go_at_call 10; refine (pknown _ (hlH.out.below hpos hb1)).mono ?_; rintro e w2 ⟨rfl, hb2⟩))
          go_ret
          exact ⟨rfl, hb1.trans (hb2.mono hb1.size)⟩
        · obtain ⟨n, hn⟩ := perf_exists l
          obtain ⟨n0, n1⟩ : 0 ≤ n ∧ n ≤ 4000 := ⟨hn.lo, hn.hi⟩
          have hnb := inB_yes n0 n1
          have hl0b : ((l.length : Int) == 0) = false := by rw [beq_eq_false_iff_ne]; omega
          have hvH := Lib.hid hv
          have hnH := Lib.hid hn
          clear hn
          by_cases h4 : n < 4000
          · have hy := hnH.out.yes n (Int.le_refl _) h4
            by_cases hz : n = 0
            · subst hz
              go_enter Tryd.func5, Tryd.ntmps5
              go_wp2_with (first
                | (go_at_call 17; refine (pPerf_yes 0 _ _ _ _ hlH.out hgH.out hvH.out h0 hnH.out).mono ?_; rintro e w1 ⟨rfl, hb1⟩)
                | (go_at_call 14; refine (rvalid _ _ _ _ ((hgH.out.below (Nat.le_refl _) hb1).more hb1.size) hmH.out).mono ?_; rintro e w' ⟨rfl, rfl⟩)
                | (go_at_call 9; refine (rrat _ _).mono ?_; rintro e w' ⟨rfl, rfl⟩)
                | (go_at_call 15; refine (rbal _ _ _ _ _ ((hgH.out.below (Nat.le_refl _) hb1).more hb1.size) (by omega) (by omega) hvH.out).mono ?_; rintro e w2 ⟨rfl, hb2⟩)
                | (go_at_call 10; refine (pknown _ (hlH.out.below hpos (hb1.trans (hb2.mono hb1.size)))).mono ?_; rintro e w3 ⟨rfl, hb3⟩))
              go_ret
              exact ⟨rfl, (hb1.trans (hb2.mono hb1.size)).trans (hb3.mono (Nat.le_trans hb1.size hb2.size))⟩
            · have hz' : (n == 0) = false := by simpa using hz
              have hp := hnH.out.no (n - 1) (by omega) (by omega)
              have n2 : 1 ≤ n := by omega
              clear hz
              go_enter Tryd.func5, Tryd.ntmps5
              go_wp2_with fail
              refine (pPerf_yes n _ _ _ _ hlH.out hgH.out hvH.out h0 hnH.out).mono ?_
              rintro e w1 ⟨rfl, hb1⟩
              have hb1H := Lib.hid hb1
              have hg1 := Lib.hid ((hgH.out.below (Nat.le_refl _) hb1).more hb1.size)
              clear hb1
              go_wp2_with (first
                | (go_at_call 14; refine (rvalid _ _ _ _ hg1.out hmH.out).mono ?_; rintro e w' ⟨rfl, rfl⟩)
                | (go_at_call 9; refine (rrat _ _).mono ?_; rintro e w' ⟨rfl, rfl⟩))
              refine (rbal _ _ _ _ _ hg1.out (by omega) (by omega) hvH.out).mono ?_
              rintro e w2 ⟨rfl, hb2⟩
              have hb2H := Lib.hid (hb1H.out.trans (hb2.mono hb1H.out.size))
              have hg2 := Lib.hid ((hg1.out.below (Nat.le_refl _) hb2).more hb2.size)
              clear hb2
              go_wp2_with fail
              refine (rbal _ _ _ _ _ hg2.out (by omega) (by omega) hvH.out).mono ?_
              rintro e w3 ⟨rfl, hb3⟩
              have hb3H := Lib.hid (hb2H.out.trans (hb3.mono hb2H.out.size))
              clear hb3
              go_wp2_with (go_at_call 10; refine (pknown _ (hlH.out.below hpos hb3H.out)).mono ?_; rintro e w4 ⟨rfl, hb4⟩)
              go_ret
              exact ⟨rfl, hb3H.out.trans (hb4.mono hb3H.out.size)⟩
          · have h4' : 4000 ≤ n := by omega
            have hz' : (n == 0) = false := by simp; omega
            have hp := hnH.out.no (n - 1) (by omega) (by omega)
            go_enter Tryd.func5, Tryd.ntmps5
            go_wp2_with (first
              | (go_at_call 17; refine (pPerf_yes n _ _ _ _ hlH.out hgH.out hvH.out h0 hnH.out).mono ?_; rintro e w1 ⟨rfl, hb1⟩)
              | (go_at_call 14; refine (rvalid _ _ _ _ ((hgH.out.below (Nat.le_refl _) hb1).more hb1.size) hmH.out).mono ?_; rintro e w' ⟨rfl, rfl⟩)
              | (go_at_call 9; refine (rrat _ _).mono ?_; rintro e w' ⟨rfl, rfl⟩)
              | (go_at_call 15; refine (rbal _ _ _ _ _ ((hgH.out.below (Nat.le_refl _) hb1).more hb1.size) (by omega) (by omega) hvH.out).mono ?_; rintro e w2 ⟨rfl, hb2⟩)
              | (go_at_call 10; refine (pknown _ (hlH.out.below hpos (hb1.trans (hb2.mono hb1.size)))).mono ?_; rintro e w3 ⟨rfl, hb3⟩))
            go_ret
            exact ⟨rfl, (hb1.trans (hb2.mono hb1.size)).trans (hb3.mono (Nat.le_trans hb1.size hb2.size))⟩
      · exfalso
        have : (l.length : Int) = 201 := by simpa using h201
        omega
end Go.Proofs.YtlmdmdjcokmgjaaDoor
