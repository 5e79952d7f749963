/- Layer 45: the law on the new rating, its loop, and all cases. -/
import Derived.Test.YtlmdmdjcokmgjaaDoorRo
namespace Go.Proofs.YtlmdmdjcokmgjaaDoor
open Go.RowKit
set_option linter.unusedSimpArgs false
set_option linter.unusedVariables false

set_option maxRecDepth 100000 in
set_option maxHeartbeats 4000000 in
theorem law_nexts_loop (r k many : Int) (A : Option Addr) (l : List (Int × Int)) (c : Nat) (w : World) (hl : LimsAt w) (hg : GamesAt w w.heap.size A l) (hm : l.length ≤ 20) (h0 : 0 < l.length) (h1 : 190 ≤ many) (h2 : many ≤ 210) : Calls Tryd.prog 4 #[.int .i64 r, .int .i64 k, .slice A l.length c, .int .i64 many] w fun e w' => e = .returned (.bool true) ∧ Below w.heap.size w w' := by
  have hpos := hl.pos
  have hlH := Lib.hid hl
  have hgH := Lib.hid hg
  clear hl hg
  obtain ⟨b, off, rfl, hbl, hc⟩ := hgH.out h0
  have hc1 : w.cell? ⟨b, off, none⟩ = some (.int .i64 (gameAt l 0).1) := by simpa using (hc 0 h0).1
  have hc2 : w.cell? ⟨b, off + 1, none⟩ = some (.int .i64 (gameAt l 0).2) := by simpa using (hc 0 h0).2
  clear hc
  obtain ⟨x, y, hxy⟩ : ∃ x y, gameAt l 0 = (x, y) := ⟨_, _, rfl⟩
  rw [hxy] at hc1 hc2
  have hxyH := Lib.hid hxy
  have hc1H := Lib.hid hc1
  have hc2H := Lib.hid hc2
  clear hxy hc1 hc2
  go_enter Tryd.func4, Tryd.ntmps4
  go_wp2_with ((at_builtin; refine wpList_append_recs ratedRow gEnc_len gEnc_one rfl _ _ rfl w.heap.size none 0 [] rfl owns_nil _ c l rfl (recs_of_games hgH.out) (by simp; omega) (Nat.le_refl _) ?_; intro A1 c1 w1 hown1 hg1 _; simp only [List.nil_append] at hown1 ⊢; have hbH1 := Lib.hid (below_none hg1); have hownH := Lib.hid hown1; clear hg1 hown1))
  go_loopw [9] (fun v wr => ∃ (n : Nat) (A' : Option Addr) (c' : Nat), v = .slice A' (extL l n).length c' ∧ Hid (wr.ownsRow w.heap.size 31 2 (.slice A' (extL l n).length c') (extL l n).length (flatR gEnc (extL l n))) ∧ Below w.heap.size w wr ∧ ((extL l n).length : Int) ≤ many) (fun v _ => many.toNat - lenV v)
  case atStart => exact ⟨0, A1, c1, by rw [extL_zero], by rw [extL_zero]; exact hownH, hbH1.out, by rw [extL_zero]; omega⟩
  case round =>
    obtain ⟨n, A', c', rfl, hown, hb, hle⟩ := hrel
    have hbH := Lib.hid hb
    have hsz := hb.size
    have hl0 := extL_length l n
    have hx210 : (extL l n).length ≤ 210 := by omega
    have hl0H := Lib.hid hl0
    clear hb hl0
    by_cases hlt : ((extL l n).length : Int) < many
    · have hs1 := Lib.hid (extL_succ l n (x, y) hxyH.out)
      have hl1 := Lib.hid (extL_length l (n + 1))
      have d1 := (hbH.out.cell (p := ⟨b, off, none⟩) hbl).trans hc1H.out
      have d2 := (hbH.out.cell (p := ⟨b, off + 1, none⟩) hbl).trans hc2H.out
      go_wp2_with (at_builtin; refine wpList_append_recs ratedRow gEnc_len gEnc_one rfl _ _ rfl w.heap.size A' c' (extL l n) rfl (hown.out.alloc _) _ 1 [(x, y)] rfl (games1r wr x y _) (by simp; omega) (by simp; omega) ?_; intro A2 c2 w2 hown2 hg2 _; rw [hs1.out] at hown2 ⊢)
      go_roundw
      case rel => exact ⟨n + 1, A2, c2, rfl, hown2, below_own (hbH.out.alloc hsz _) (hown.out.alloc _) hg2 (by simp; omega), by rw [hl1.out]; have := hl0H.out; omega⟩
      case measure => simp only [lenV]; rw [hl1.out]; have := hl0H.out; omega
    · have hge : many ≤ ((extL l n).length : Int) := by omega
      go_wp2_with ((at_builtin; refine wpList_append_recs ratedRow gEnc_len gEnc_one rfl _ _ rfl wr.heap.size none 0 [] rfl owns_nil A' c' (extL l n) rfl (RecAt.of_own gEnc_len rfl hown.out) (by simp; omega) (Nat.le_refl _) ?_; intro A2 c2 w2 hown2 hg2 _; simp only [List.nil_append] at hown2 ⊢; have hownH2 := Lib.hid hown2; have hb2 := Lib.hid (below_none hg2); clear hg2 hown2))
      have hgA := Lib.hid ((games_own hown.out).below (Nat.le_refl _) hb2.out)
      have hgB := Lib.hid (games_own hownH2.out)
      have hbw := Lib.hid (hbH.out.trans (hb2.out.mono hbH.out.size))
      have hgA := Lib.hid (hgA.out.more hb2.out.size)
      clear hown hownH2 hb2 hbH
      have hlw := Lib.hid (hlH.out.below hpos hbw.out)
      rcases inB_or r 0 4000 with ⟨r0, r1, hr⟩ | hr
      · cases hv : vldG ((extL l n))
        · refine (pBal_no _ _ ((extL l n)) _ _ hgA.out (by unfold maxLen; omega) (.inr hv)).mono ?_
          rintro e w3 ⟨rfl, hb3⟩
          have hga := Lib.hid ((hgA.out.below (Nat.le_refl _) hb3).more hb3.size)
          have hgb := Lib.hid ((hgB.out.below (Nat.le_refl _) hb3).more hb3.size)
          have hbw3 := Lib.hid (hbw.out.trans (hb3.mono hbw.out.size))
          have hlw3 := Lib.hid (hlH.out.below hpos hbw3.out)
          clear hb3 hgA hgB
          go_wp2_with fail
          refine (pNext_no _ _ _ ((extL l n)) _ _ hga.out (by unfold maxLen; omega) (.inr (.inr hv))).mono ?_
          rintro e w4 ⟨rfl, hb4⟩
          have hga := Lib.hid ((hga.out.below (Nat.le_refl _) hb4).more hb4.size)
          have hgb := Lib.hid ((hgb.out.below (Nat.le_refl _) hb4).more hb4.size)
          have hbw4 := Lib.hid (hbw3.out.trans (hb4.mono hbw3.out.size))
          clear hb4 hbw3 hlw3
          go_wp2_with fail
          go_loopw [15] (fun i wr => ∃ q : Nat, q ≤ ((extL l n)).length ∧ i = .int .i64 q ∧ Below w4.heap.size w4 wr) (fun i _ => ((extL l n)).length - (intOf i).toNat)
          case atStart => exact ⟨0, by omega, rfl, Below.refl _ _⟩
          case round =>
            obtain ⟨q, hq, rfl, hbr⟩ := hrel
            have hbrH := Lib.hid hbr
            clear hbr
            by_cases hlt : q < ((extL l n)).length
            · obtain ⟨ba, oa, rfl, hba, hca⟩ := hga.out (by omega)
              obtain ⟨bb, ob, rfl, hbb, hcb⟩ := hgb.out (by omega)
              have ca1 := (hbrH.out.cell (p := ⟨ba, oa + q * 2, none⟩) hba).trans (hca q hlt).1
              have ca2 := (hbrH.out.cell (p := ⟨ba, oa + q * 2 + 1, none⟩) hba).trans (hca q hlt).2
              have cb1 := (hbrH.out.cell (p := ⟨bb, ob + q * 2, none⟩) hbb).trans (hcb q hlt).1
              have cb2 := (hbrH.out.cell (p := ⟨bb, ob + q * 2 + 1, none⟩) hbb).trans (hcb q hlt).2
              have hi0 : (0 : Int) ≤ (q : Int) := Int.natCast_nonneg _
              have hi1 : (q : Int) < (((extL l n)).length : Int) := by omega
              clear hca hcb
              generalize gameAt ((extL l n)) q = g at *
              obtain ⟨x, y⟩ := g
              go_wp2
              go_quiet (fail)
              go_wp2
              go_roundw
              case rel => exact ⟨q + 1, by omega, by go_num, below_drewN hbrH.out _⟩
              case measure => simp [intOf]; omega
            · have hge : ((extL l n)).length ≤ q := by omega
              have hbwr := Lib.hid (hbw4.out.trans (hbrH.out.mono hbw4.out.size))
              have hgr := Lib.hid ((hga.out.below (Nat.le_refl _) hbrH.out).more hbrH.out.size)
              have hlr := Lib.hid (hlH.out.below hpos hbwr.out)
              clear hga hgb hbrH hbw4
              go_wp2_with (first | (go_at_call 9; refine (rrat _ _).mono ?_; rintro e w' ⟨rfl, rfl⟩) | (go_at_call 14; refine (rvalid _ ((extL l n)) _ _ hgr.out (by unfold maxLen; omega)).mono ?_; rintro e w' ⟨rfl, rfl⟩) | (go_at_call 10; refine (pknown _ hlr.out).mono ?_; rintro e w5 ⟨rfl, hb5⟩))
              go_ret
              exact ⟨rfl, hbwr.out.trans (hb5.mono hbwr.out.size)⟩
        · have hvH := Lib.hid hv
          rcases inB_or k 1 60 with ⟨k0, k1, hk⟩ | hk
          · refine (pBal_yes _ _ ((extL l n)) _ _ hlw.out hgA.out r0 r1 hvH.out).mono ?_
            rintro e w3 ⟨rfl, hb3⟩
            have hga := Lib.hid ((hgA.out.below (Nat.le_refl _) hb3).more hb3.size)
            have hgb := Lib.hid ((hgB.out.below (Nat.le_refl _) hb3).more hb3.size)
            have hbw3 := Lib.hid (hbw.out.trans (hb3.mono hbw.out.size))
            have hlw3 := Lib.hid (hlH.out.below hpos hbw3.out)
            clear hb3 hgA hgB
            go_wp2_with fail
            refine (pNext_yes _ _ _ ((extL l n)) _ _ hlw3.out hga.out r0 r1 k0 k1 hvH.out).mono ?_
            rintro e w4 ⟨rfl, hb4⟩
            have hga := Lib.hid ((hga.out.below (Nat.le_refl _) hb4).more hb4.size)
            have hgb := Lib.hid ((hgb.out.below (Nat.le_refl _) hb4).more hb4.size)
            have hbw4 := Lib.hid (hbw3.out.trans (hb4.mono hbw3.out.size))
            clear hb4 hbw3 hlw3
            go_wp2_with fail
            go_loopw [15] (fun i wr => ∃ q : Nat, q ≤ ((extL l n)).length ∧ i = .int .i64 q ∧ Below w4.heap.size w4 wr) (fun i _ => ((extL l n)).length - (intOf i).toNat)
            case atStart => exact ⟨0, by omega, rfl, Below.refl _ _⟩
            case round =>
              obtain ⟨q, hq, rfl, hbr⟩ := hrel
              have hbrH := Lib.hid hbr
              clear hbr
              by_cases hlt : q < ((extL l n)).length
              · obtain ⟨ba, oa, rfl, hba, hca⟩ := hga.out (by omega)
                obtain ⟨bb, ob, rfl, hbb, hcb⟩ := hgb.out (by omega)
                have ca1 := (hbrH.out.cell (p := ⟨ba, oa + q * 2, none⟩) hba).trans (hca q hlt).1
                have ca2 := (hbrH.out.cell (p := ⟨ba, oa + q * 2 + 1, none⟩) hba).trans (hca q hlt).2
                have cb1 := (hbrH.out.cell (p := ⟨bb, ob + q * 2, none⟩) hbb).trans (hcb q hlt).1
                have cb2 := (hbrH.out.cell (p := ⟨bb, ob + q * 2 + 1, none⟩) hbb).trans (hcb q hlt).2
                have hi0 : (0 : Int) ≤ (q : Int) := Int.natCast_nonneg _
                have hi1 : (q : Int) < (((extL l n)).length : Int) := by omega
                clear hca hcb
                generalize gameAt ((extL l n)) q = g at *
                obtain ⟨x, y⟩ := g
                go_wp2
                go_quiet (fail)
                go_wp2
                go_roundw
                case rel => exact ⟨q + 1, by omega, by go_num, below_drewN hbrH.out _⟩
                case measure => simp [intOf]; omega
              · have hge : ((extL l n)).length ≤ q := by omega
                have hbwr := Lib.hid (hbw4.out.trans (hbrH.out.mono hbw4.out.size))
                have hgr := Lib.hid ((hga.out.below (Nat.le_refl _) hbrH.out).more hbrH.out.size)
                have hlr := Lib.hid (hlH.out.below hpos hbwr.out)
                clear hga hgb hbrH hbw4
                go_wp2_with (first | (go_at_call 9; refine (rrat _ _).mono ?_; rintro e w' ⟨rfl, rfl⟩) | (go_at_call 14; refine (rvalid _ ((extL l n)) _ _ hgr.out (by unfold maxLen; omega)).mono ?_; rintro e w' ⟨rfl, rfl⟩))
                refine (rbal _ _ ((extL l n)) _ _ hgr.out r0 r1 hvH.out).mono ?_
                rintro e w6 ⟨rfl, hb6⟩
                have hbw6 := Lib.hid (hbwr.out.trans (hb6.mono hbwr.out.size))
                have hl6 := Lib.hid (hlH.out.below hpos hbw6.out)
                have hg6 := Lib.hid ((hgr.out.below (Nat.le_refl _) hb6).more hb6.size)
                clear hb6
                go_wp2_with fail
                refine (rnext _ _ _ ((extL l n)) _ _ hg6.out r0 r1 k0 k1 hvH.out).mono ?_
                rintro e w7 ⟨rfl, hb7⟩
                have hbw7 := Lib.hid (hbw6.out.trans (hb7.mono hbw6.out.size))
                have hl7 := Lib.hid (hlH.out.below hpos hbw7.out)
                clear hb7
                go_wp2_with ((go_at_call 10; refine (pknown _ hl7.out).mono ?_; rintro e w5 ⟨rfl, hb5⟩))
                go_ret
                exact ⟨rfl, hbw7.out.trans (hb5.mono hbw7.out.size)⟩
          · rcases (by unfold inB at hk; simp at hk; omega : k < 1 ∨ (1 ≤ k ∧ 60 < k)) with hk1 | ⟨hk1, hk2⟩
            all_goals
              refine (pBal_yes _ _ ((extL l n)) _ _ hlw.out hgA.out r0 r1 hvH.out).mono ?_
              rintro e w3 ⟨rfl, hb3⟩
              have hga := Lib.hid ((hgA.out.below (Nat.le_refl _) hb3).more hb3.size)
              have hgb := Lib.hid ((hgB.out.below (Nat.le_refl _) hb3).more hb3.size)
              have hbw3 := Lib.hid (hbw.out.trans (hb3.mono hbw.out.size))
              have hlw3 := Lib.hid (hlH.out.below hpos hbw3.out)
              clear hb3 hgA hgB
              go_wp2_with fail
              refine (pNext_no _ _ _ ((extL l n)) _ _ hga.out (by unfold maxLen; omega) (.inr (.inl hk))).mono ?_
              rintro e w4 ⟨rfl, hb4⟩
              have hga := Lib.hid ((hga.out.below (Nat.le_refl _) hb4).more hb4.size)
              have hgb := Lib.hid ((hgb.out.below (Nat.le_refl _) hb4).more hb4.size)
              have hbw4 := Lib.hid (hbw3.out.trans (hb4.mono hbw3.out.size))
              clear hb4 hbw3 hlw3
              go_wp2_with fail
              go_loopw [15] (fun i wr => ∃ q : Nat, q ≤ ((extL l n)).length ∧ i = .int .i64 q ∧ Below w4.heap.size w4 wr) (fun i _ => ((extL l n)).length - (intOf i).toNat)
              case atStart => exact ⟨0, by omega, rfl, Below.refl _ _⟩
              case round =>
                obtain ⟨q, hq, rfl, hbr⟩ := hrel
                have hbrH := Lib.hid hbr
                clear hbr
                by_cases hlt : q < ((extL l n)).length
                · obtain ⟨ba, oa, rfl, hba, hca⟩ := hga.out (by omega)
                  obtain ⟨bb, ob, rfl, hbb, hcb⟩ := hgb.out (by omega)
                  have ca1 := (hbrH.out.cell (p := ⟨ba, oa + q * 2, none⟩) hba).trans (hca q hlt).1
                  have ca2 := (hbrH.out.cell (p := ⟨ba, oa + q * 2 + 1, none⟩) hba).trans (hca q hlt).2
                  have cb1 := (hbrH.out.cell (p := ⟨bb, ob + q * 2, none⟩) hbb).trans (hcb q hlt).1
                  have cb2 := (hbrH.out.cell (p := ⟨bb, ob + q * 2 + 1, none⟩) hbb).trans (hcb q hlt).2
                  have hi0 : (0 : Int) ≤ (q : Int) := Int.natCast_nonneg _
                  have hi1 : (q : Int) < (((extL l n)).length : Int) := by omega
                  clear hca hcb
                  generalize gameAt ((extL l n)) q = g at *
                  obtain ⟨x, y⟩ := g
                  go_wp2
                  go_quiet (fail)
                  go_wp2
                  go_roundw
                  case rel => exact ⟨q + 1, by omega, by go_num, below_drewN hbrH.out _⟩
                  case measure => simp [intOf]; omega
                · have hge : ((extL l n)).length ≤ q := by omega
                  have hbwr := Lib.hid (hbw4.out.trans (hbrH.out.mono hbw4.out.size))
                  have hgr := Lib.hid ((hga.out.below (Nat.le_refl _) hbrH.out).more hbrH.out.size)
                  have hlr := Lib.hid (hlH.out.below hpos hbwr.out)
                  clear hga hgb hbrH hbw4
                  go_wp2_with (first | (go_at_call 9; refine (rrat _ _).mono ?_; rintro e w' ⟨rfl, rfl⟩) | (go_at_call 14; refine (rvalid _ ((extL l n)) _ _ hgr.out (by unfold maxLen; omega)).mono ?_; rintro e w' ⟨rfl, rfl⟩))
                  refine (rbal _ _ ((extL l n)) _ _ hgr.out r0 r1 hvH.out).mono ?_
                  rintro e w6 ⟨rfl, hb6⟩
                  have hbw6 := Lib.hid (hbwr.out.trans (hb6.mono hbwr.out.size))
                  have hl6 := Lib.hid (hlH.out.below hpos hbw6.out)
                  have hg6 := Lib.hid ((hgr.out.below (Nat.le_refl _) hb6).more hb6.size)
                  clear hb6
                  go_wp2_with ((go_at_call 10; refine (pknown _ hl6.out).mono ?_; rintro e w5 ⟨rfl, hb5⟩))
                  go_ret
                  exact ⟨rfl, hbw6.out.trans (hb5.mono hbw6.out.size)⟩
      · refine (pBal_no _ _ ((extL l n)) _ _ hgA.out (by unfold maxLen; omega) (.inl hr)).mono ?_
        rintro e w3 ⟨rfl, hb3⟩
        have hga := Lib.hid ((hgA.out.below (Nat.le_refl _) hb3).more hb3.size)
        have hgb := Lib.hid ((hgB.out.below (Nat.le_refl _) hb3).more hb3.size)
        have hbw3 := Lib.hid (hbw.out.trans (hb3.mono hbw.out.size))
        have hlw3 := Lib.hid (hlH.out.below hpos hbw3.out)
        clear hb3 hgA hgB
        go_wp2_with fail
        refine (pNext_no _ _ _ ((extL l n)) _ _ hga.out (by unfold maxLen; omega) (.inl hr)).mono ?_
        rintro e w4 ⟨rfl, hb4⟩
        have hga := Lib.hid ((hga.out.below (Nat.le_refl _) hb4).more hb4.size)
        have hgb := Lib.hid ((hgb.out.below (Nat.le_refl _) hb4).more hb4.size)
        have hbw4 := Lib.hid (hbw3.out.trans (hb4.mono hbw3.out.size))
        clear hb4 hbw3 hlw3
        go_wp2_with fail
        go_loopw [15] (fun i wr => ∃ q : Nat, q ≤ ((extL l n)).length ∧ i = .int .i64 q ∧ Below w4.heap.size w4 wr) (fun i _ => ((extL l n)).length - (intOf i).toNat)
        case atStart => exact ⟨0, by omega, rfl, Below.refl _ _⟩
        case round =>
          obtain ⟨q, hq, rfl, hbr⟩ := hrel
          have hbrH := Lib.hid hbr
          clear hbr
          by_cases hlt : q < ((extL l n)).length
          · obtain ⟨ba, oa, rfl, hba, hca⟩ := hga.out (by omega)
            obtain ⟨bb, ob, rfl, hbb, hcb⟩ := hgb.out (by omega)
            have ca1 := (hbrH.out.cell (p := ⟨ba, oa + q * 2, none⟩) hba).trans (hca q hlt).1
            have ca2 := (hbrH.out.cell (p := ⟨ba, oa + q * 2 + 1, none⟩) hba).trans (hca q hlt).2
            have cb1 := (hbrH.out.cell (p := ⟨bb, ob + q * 2, none⟩) hbb).trans (hcb q hlt).1
            have cb2 := (hbrH.out.cell (p := ⟨bb, ob + q * 2 + 1, none⟩) hbb).trans (hcb q hlt).2
            have hi0 : (0 : Int) ≤ (q : Int) := Int.natCast_nonneg _
            have hi1 : (q : Int) < (((extL l n)).length : Int) := by omega
            clear hca hcb
            generalize gameAt ((extL l n)) q = g at *
            obtain ⟨x, y⟩ := g
            go_wp2
            go_quiet (fail)
            go_wp2
            go_roundw
            case rel => exact ⟨q + 1, by omega, by go_num, below_drewN hbrH.out _⟩
            case measure => simp [intOf]; omega
          · have hge : ((extL l n)).length ≤ q := by omega
            have hbwr := Lib.hid (hbw4.out.trans (hbrH.out.mono hbw4.out.size))
            have hgr := Lib.hid ((hga.out.below (Nat.le_refl _) hbrH.out).more hbrH.out.size)
            have hlr := Lib.hid (hlH.out.below hpos hbwr.out)
            clear hga hgb hbrH hbw4
            go_wp2_with (first | (go_at_call 9; refine (rrat _ _).mono ?_; rintro e w' ⟨rfl, rfl⟩) | (go_at_call 10; refine (pknown _ hlr.out).mono ?_; rintro e w5 ⟨rfl, hb5⟩))
            go_ret
            exact ⟨rfl, hbwr.out.trans (hb5.mono hbwr.out.size)⟩

theorem law_nexts (r k many : Int) (A : Option Addr) (l : List (Int × Int)) (c : Nat) (w : World) (hl : LimsAt w) (hg : GamesAt w w.heap.size A l) (hm : l.length ≤ maxLen) : Calls Tryd.prog 4 #[.int .i64 r, .int .i64 k, .slice A l.length c, .int .i64 many] w fun e w' => e = .returned (.bool true) ∧ Below w.heap.size w w' := by
  by_cases h20 : l.length ≤ 20
  · by_cases h1 : many < 190
    · exact law_nexts_low r k many A l c w hl hg h20 h1
    · by_cases h2 : 210 < many
      · exact law_nexts_high r k many A l c w hl hg h20 h2
      · by_cases h0 : l.length ≤ 0
        · exact law_nexts_none r k many A l c w hl hg h20 h0 (by omega) (by omega)
        · exact law_nexts_loop r k many A l c w hl hg h20 (by omega) (by omega) (by omega)
  · have h20' : 20 < l.length := by omega
    have hlH := Lib.hid hl
    unfold maxLen at hm
    clear hl hg h20
    go_enter Tryd.func4, Tryd.ntmps4
    go_wp2_with (go_at_call 10; refine (pknown _ hlH.out).mono ?_; rintro e w' ⟨rfl, hb⟩)
    go_ret
    exact ⟨rfl, hb⟩
end Go.Proofs.YtlmdmdjcokmgjaaDoor
