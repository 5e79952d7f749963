/- Layer 3: a small board; equal boards: the program's and the reference's. Printed by gen_bg.py. -/
import Derived.Test.YtjglpphfkkabnaaDoorBf
namespace Go.Proofs.YtjglpphfkkabnaaDoor
open Go.RowKit
set_option linter.unusedSimpArgs false
set_option linter.unusedVariables false

/-- two boards are equal -/
def bEq (f r : Int) (l : List Int) (f' r' : Int) (l' : List Int) : Bool := decide (f = f' ∧ r = r' ∧ l = l')
theorem bEq_l (f r : Int) (l l' : List Int) : bEq f r l f r l' = decide (l = l') := by unfold bEq; simp
theorem bEq_rfl (f r : Int) (l : List Int) : bEq f r l f r l = true := decide_eq_true ⟨rfl, rfl, rfl⟩
theorem csmall (f r : Int) (A : Option Addr) (n c : Nat) (w : World) (hn : n ≤ maxLen) : Calls Tryd.prog 9 #[bV f r A n c] w fun e w' => e = .returned (.bool (decide (n ≤ 70))) ∧ Below w.heap.size w w' := by
  have hK := Lib.hid (KB.first f r A n c w 26)
  have c2 := hK.out.c2
  unfold maxLen at hn
  by_cases h : n ≤ 70
  · have hi : ((n : Int) ≤ 70) = True := by rw [eq_iff_iff, iff_true]; omega
    have hR := Lib.hid (decide_eq_true h)
    clear h
    go_enter Tryd.func9, Tryd.ntmps9
    go_wp2
    go_ret
    exact ⟨by rw [hR.out]; try rfl, hK.out.below⟩
  · have hi : ((n : Int) ≤ 70) = False := by rw [eq_iff_iff, iff_false]; omega
    have hR := Lib.hid (decide_eq_false h)
    clear h
    go_enter Tryd.func9, Tryd.ntmps9
    go_wp2
    go_ret
    exact ⟨by rw [hR.out]; try rfl, hK.out.below⟩
set_option maxHeartbeats 1000000 in
theorem pseq (A1 A2 : Option Addr) (c1 c2 : Nat) (l1 l2 : List Int) (w : World) (h1 : PcsAt w w.heap.size A1 l1) (h2 : PcsAt w w.heap.size A2 l2) (hm1 : l1.length ≤ 1000000) (hm2 : l2.length ≤ 1000000) :
    Calls Tryd.prog 58 #[.slice A1 l1.length c1, .slice A2 l2.length c2] w fun e w' => e = .returned (.bool (decide (l1 = l2))) ∧ Below w.heap.size w w' := by
  by_cases hlen : l1.length = l2.length
  · have hne : ((l1.length : Int) != (l2.length : Int)) = false := by rw [bne_eq_false_iff_eq, hlen]
    have h1H := Lib.hid h1
    have h2H := Lib.hid h2
    replace hlen := Lib.hid hlen
    clear h1 h2
    generalize hR : decide (l1 = l2) = R
    replace hR := Lib.hid hR
    go_enter Tryd.func58, Tryd.ntmps58
    go_wp2_with fail
    go_loopw [5, 13] (fun _ i wr => ∃ k : Nat, k ≤ l1.length ∧ i = .int .i64 k ∧ Hid (∀ j : Nat, j < k → l1[j]? = l2[j]?) ∧ Hid (Below w.heap.size w wr)) (fun _ i _ => l1.length - (intOf i).toNat)
    case atStart => exact ⟨0, by omega, rfl, fun j hj => absurd hj (Nat.not_lt_zero _), Below.refl _ _⟩
    case round =>
      obtain ⟨k, hk, rfl, hsame, hB⟩ := hrel


      by_cases hkn : k < l1.length
      · obtain ⟨b1, o1, rfl, hb1, hc1⟩ := h1H.out (by omega)
        obtain ⟨b2, o2, rfl, hb2, hc2⟩ := h2H.out (by have := hlen.out; omega)
        have hk2 : k < l2.length := by have := hlen.out; omega
        obtain ⟨a, ha⟩ : ∃ m, l1[k]? = some m := ⟨_, List.getElem?_eq_getElem hkn⟩
        obtain ⟨a', ha'⟩ : ∃ m, l2[k]? = some m := ⟨_, List.getElem?_eq_getElem hk2⟩
        have x0 := (hB.out.cell (p := ⟨b1, o1 + k, none⟩) hb1).trans (pcs1 hc1 ha)
        have y0 := (hB.out.cell (p := ⟨b2, o2 + k, none⟩) hb2).trans (pcs1 hc2 ha')
        clear hc1 hc2
        replace ha := Lib.hid ha
        replace ha' := Lib.hid ha'
        by_cases he : a = a'
        · subst he
          go_wp2_with fail
          go_quiet (fail)
          go_wp2_with fail
          go_roundw
          case rel =>
            refine ⟨k + 1, by omega, by go_num, fun j hj => ?_, by first | exact hB.out | exact Lib.hid (below_drewN hB.out _)⟩
            · by_cases hjk : j < k
              · exact hsame.out j hjk
              · obtain rfl : j = k := by omega
                rw [ha.out, ha'.out]
          case measure => simp [intOf]; omega
        · have hRf : Hid (R = false) := by
            show _ = _
            rw [← hR.out, decide_eq_false_iff_not]
            intro e
            skip
            have h3 := ha.out
            rw [e, ha'.out] at h3
            exact he (Option.some.inj h3).symm
          have hx : (a == a') = false := by rw [beq_eq_false_iff_ne]; exact he
          clear he
          go_wp2_with fail
          go_quiet (fail)
          go_wp2_with fail
          go_ret
          exact ⟨by rw [hRf.out]; rfl, by first | exact below_drewN hB.out _ | exact hB.out⟩
      · obtain rfl : k = l1.length := by omega
        have hRt : Hid (R = true) := by
          show _ = _
          rw [← hR.out, decide_eq_true_eq]
          skip
          apply List.ext_getElem?
          intro j
          by_cases hj : j < l1.length
          · exact hsame.out j hj
          · rw [List.getElem?_eq_none (by omega), List.getElem?_eq_none (by have := hlen.out; omega)]
        go_wp2_with fail
        go_ret
        exact ⟨by rw [hRt.out]; rfl, hB.out⟩
  · have hne : ((l1.length : Int) != (l2.length : Int)) = true := by rw [bne_iff_ne]; omega
    have hR : Hid (decide (l1 = l2) = false) := by
      show _ = _
      rw [decide_eq_false_iff_not]
      exact fun e => hlen (by rw [e])
    clear hlen
    go_enter Tryd.func58, Tryd.ntmps58
    go_wp2_with fail
    go_ret
    exact ⟨by rw [hR.out]; rfl, Below.refl _ _⟩
set_option maxRecDepth 100000 in
set_option maxHeartbeats 1000000 in
theorem pequal (f r : Int) (A1 : Option Addr) (c1 : Nat) (l1 : List Int) (f' r' : Int) (A2 : Option Addr) (c2 : Nat) (l2 : List Int) (w : World) (h1 : PcsAt w w.heap.size A1 l1) (h2 : PcsAt w w.heap.size A2 l2) (hm1 : l1.length ≤ 1000000) (hm2 : l2.length ≤ 1000000) :
    Calls Tryd.prog 35 #[bV f r A1 l1.length c1, bV f' r' A2 l2.length c2] w fun e w' => e = .returned (.bool (bEq f r l1 f' r' l2)) ∧ Below w.heap.size w w' := by
  have hK := Lib.hid ((KB.first f r A1 l1.length c1 w 26).alloc (.cells #[.int .i64 f', .int .i64 r', .slice A2 l2.length c2] 26))
  have hT := Lib.hid (tri_two w (.cells #[.int .i64 f, .int .i64 r, .slice A1 l1.length c1] 26) (.int .i64 f') (.int .i64 r') (.slice A2 l2.length c2) 26)
  have p0 := hK.out.c0
  have p1 := hK.out.c1
  have p2 := hK.out.c2
  have q0 := hT.out.c0
  have q1 := hT.out.c1
  have q2 := hT.out.c2
  by_cases hf : f = f'
  · subst hf
    by_cases hr : r = r'
    · subst hr
      have hAW : Hid (∀ W, Below w.heap.size w W → PcsAt W W.heap.size A1 l1 ∧ PcsAt W W.heap.size A2 l2) := fun W hb => ⟨(h1.below (Nat.le_refl _) hb).more hb.size, (h2.below (Nat.le_refl _) hb).more hb.size⟩
      have hR : Hid (bEq f r l1 f r l2 = decide (l1 = l2)) := bEq_l f r l1 l2
      clear h1 h2
      go_enter Tryd.func35, Tryd.ntmps35
      go_wp2_with (go_at_call 58; refine (pseq _ _ _ _ _ _ _ (hAW.out _ hK.out.below).1 (hAW.out _ hK.out.below).2 hm1 hm2).mono ?_; rintro e w2 ⟨rfl, hbw⟩; replace hK := Lib.hid (hK.out.next hbw); clear hbw)
      go_ret
      exact ⟨by rw [hR.out]; try rfl, hK.out.below⟩
    · have hr' : (r == r') = false := by rw [beq_eq_false_iff_ne]; exact hr
      have hR : Hid (bEq f r l1 f r' l2 = false) := decide_eq_false fun e => hr e.2.1
      clear h1 h2 hr
      go_enter Tryd.func35, Tryd.ntmps35
      go_wp2_with fail
      go_ret
      exact ⟨by rw [hR.out]; try rfl, hK.out.below⟩
  · have hf' : (f == f') = false := by rw [beq_eq_false_iff_ne]; exact hf
    have hR : Hid (bEq f r l1 f' r' l2 = false) := decide_eq_false fun e => hf e.1
    clear h1 h2 hf
    go_enter Tryd.func35, Tryd.ntmps35
    go_wp2_with fail
    go_ret
    exact ⟨by rw [hR.out]; try rfl, hK.out.below⟩
set_option maxRecDepth 100000 in
set_option maxHeartbeats 1000000 in
theorem rsameb (f r : Int) (A1 : Option Addr) (c1 : Nat) (l1 : List Int) (f' r' : Int) (A2 : Option Addr) (c2 : Nat) (l2 : List Int) (w : World) (h1 : PcsAt w w.heap.size A1 l1) (h2 : PcsAt w w.heap.size A2 l2) (hm1 : l1.length ≤ 1000000) (hm2 : l2.length ≤ 1000000) :
    Calls Tryd.prog 14 #[bV f r A1 l1.length c1, bV f' r' A2 l2.length c2] w fun e w' => e = .returned (.bool (bEq f r l1 f' r' l2)) ∧ Below w.heap.size w w' := by
  have hK := Lib.hid ((KB.first f r A1 l1.length c1 w 26).alloc (.cells #[.int .i64 f', .int .i64 r', .slice A2 l2.length c2] 26))
  have hT := Lib.hid (tri_two w (.cells #[.int .i64 f, .int .i64 r, .slice A1 l1.length c1] 26) (.int .i64 f') (.int .i64 r') (.slice A2 l2.length c2) 26)
  have p0 := hK.out.c0
  have p1 := hK.out.c1
  have p2 := hK.out.c2
  have q0 := hT.out.c0
  have q1 := hT.out.c1
  have q2 := hT.out.c2
  by_cases hf : f = f'
  · subst hf
    by_cases hr : r = r'
    · subst hr
      by_cases hlen : l1.length = l2.length
      · have hne : ((l1.length : Int) != (l2.length : Int)) = false := by rw [bne_eq_false_iff_eq, hlen]
        have h1H := Lib.hid h1
        have h2H := Lib.hid h2
        replace hlen := Lib.hid hlen
        clear h1 h2
        rw [bEq_l]
        generalize hR : decide (l1 = l2) = R
        replace hR := Lib.hid hR
        go_enter Tryd.func14, Tryd.ntmps14
        go_upto_region 1 with fail
        generalize (w.alloc (.cells #[.int .i64 f, .int .i64 r, .slice A1 l1.length c1] 26)).alloc (.cells #[.int .i64 f, .int .i64 r, .slice A2 l2.length c2] 26) = w1 at *
        go_wp2_with fail
        go_loopw [5] (fun i wr => ∃ k : Nat, k ≤ l1.length ∧ i = .int .i64 k ∧ Hid (∀ j : Nat, j < k → l1[j]? = l2[j]?) ∧ Hid (Below w.heap.size w wr) ∧ Hid (KB f r A1 l1.length c1 w wr) ∧ Hid (Tri wr (w.heap.size + 1) (.int .i64 f) (.int .i64 r) (.slice A2 l2.length c2))) (fun i _ => l1.length - (intOf i).toNat)
        case atStart => exact ⟨0, by omega, rfl, fun j hj => absurd hj (Nat.not_lt_zero _), hK.out.below, hK, hT⟩
        case round =>
          obtain ⟨k, hk, rfl, hsame, hB, hKr, hTr⟩ := hrel
          clear hK hT p0 p1 p2 q0 q1 q2
          have p0 := hKr.out.c0; have p1 := hKr.out.c1; have p2 := hKr.out.c2; have q0 := hTr.out.c0; have q1 := hTr.out.c1; have q2 := hTr.out.c2
          by_cases hkn : k < l1.length
          · obtain ⟨b1, o1, rfl, hb1, hc1⟩ := h1H.out (by omega)
            obtain ⟨b2, o2, rfl, hb2, hc2⟩ := h2H.out (by have := hlen.out; omega)
            have hk2 : k < l2.length := by have := hlen.out; omega
            obtain ⟨a, ha⟩ : ∃ m, l1[k]? = some m := ⟨_, List.getElem?_eq_getElem hkn⟩
            obtain ⟨a', ha'⟩ : ∃ m, l2[k]? = some m := ⟨_, List.getElem?_eq_getElem hk2⟩
            have x0 := (hB.out.cell (p := ⟨b1, o1 + k, none⟩) hb1).trans (pcs1 hc1 ha)
            have y0 := (hB.out.cell (p := ⟨b2, o2 + k, none⟩) hb2).trans (pcs1 hc2 ha')
            clear hc1 hc2
            replace ha := Lib.hid ha
            replace ha' := Lib.hid ha'
            by_cases he : a = a'
            · subst he
              go_wp2_with fail
              go_quiet (fail)
              go_wp2_with fail
              go_roundw
              case rel =>
                refine ⟨k + 1, by omega, by go_num, fun j hj => ?_, ?_, ?_, ?_⟩
                · by_cases hjk : j < k
                  · exact hsame.out j hjk
                  · obtain rfl : j = k := by omega
                    rw [ha.out, ha'.out]
                · first | exact hB.out | exact Lib.hid (below_drewN hB.out _)
                · first | exact hKr | exact Lib.hid (hKr.out.drewN _)
                · first | exact hTr | exact Lib.hid (hTr.out.next (below_drewN (Below.refl _ _) _))
              case measure => simp [intOf]; omega
            · have hRf : Hid (R = false) := by
                show _ = _
                rw [← hR.out, decide_eq_false_iff_not]
                intro e
                skip
                have h3 := ha.out
                rw [e, ha'.out] at h3
                exact he (Option.some.inj h3).symm
              have hx : (a == a') = false := by rw [beq_eq_false_iff_ne]; exact he
              clear he
              go_wp2_with fail
              go_quiet (fail)
              go_wp2_with fail
              go_ret
              exact ⟨by rw [hRf.out]; rfl, by first | exact below_drewN hB.out _ | exact hB.out⟩
          · obtain rfl : k = l1.length := by omega
            have hRt : Hid (R = true) := by
              show _ = _
              rw [← hR.out, decide_eq_true_eq]
              skip
              apply List.ext_getElem?
              intro j
              by_cases hj : j < l1.length
              · exact hsame.out j hj
              · rw [List.getElem?_eq_none (by omega), List.getElem?_eq_none (by have := hlen.out; omega)]
            go_wp2_with fail
            go_ret
            exact ⟨by rw [hRt.out]; rfl, hB.out⟩
      · have hne : ((l1.length : Int) != (l2.length : Int)) = true := by rw [bne_iff_ne]; omega
        have hR : Hid (bEq f r l1 f r l2 = false) := decide_eq_false fun e => hlen (by rw [e.2.2])
        clear h1 h2 hlen
        go_enter Tryd.func14, Tryd.ntmps14
        go_wp2_with fail
        go_ret
        exact ⟨by rw [hR.out]; try rfl, hK.out.below⟩
    · have hr' : (r == r') = false := by rw [beq_eq_false_iff_ne]; exact hr
      have hR : Hid (bEq f r l1 f r' l2 = false) := decide_eq_false fun e => hr e.2.1
      clear h1 h2 hr
      go_enter Tryd.func14, Tryd.ntmps14
      go_wp2_with fail
      go_ret
      exact ⟨by rw [hR.out]; try rfl, hK.out.below⟩
  · have hf' : (f == f') = false := by rw [beq_eq_false_iff_ne]; exact hf
    have hR : Hid (bEq f r l1 f' r' l2 = false) := decide_eq_false fun e => hf e.1
    clear h1 h2 hf
    go_enter Tryd.func14, Tryd.ntmps14
    go_wp2_with fail
    go_ret
    exact ⟨by rw [hR.out]; try rfl, hK.out.below⟩
end Go.Proofs.YtjglpphfkkabnaaDoor
