/- Layer 7: the reference's Same. -/
import Derived.Test.YtlnphcdanadaeaaDoorMk
namespace Go.Proofs.YtlnphcdanadaeaaDoor
open Go.RowKit
set_option linter.unusedSimpArgs false
set_option linter.unusedVariables false

set_option maxHeartbeats 1000000 in
theorem rsame (A1 A2 : Option Addr) (c1 c2 : Nat) (l1 l2 : List Mv) (w : World) (h1 : RecAt mEnc 3 w w.heap.size A1 l1) (h2 : RecAt mEnc 3 w w.heap.size A2 l2) (hm1 : l1.length ≤ 1000000) (hm2 : l2.length ≤ 1000000) :
    Calls Tryd.prog 19 #[.slice A1 l1.length c1, .slice A2 l2.length c2] w fun e w' => e = .returned (.bool (decide (l1 = l2))) ∧ Below w.heap.size w w' := by
  by_cases hlen : l1.length = l2.length
  · have hne : ((l1.length : Int) != (l2.length : Int)) = false := by rw [bne_eq_false_iff_eq, hlen]
    have h1H := Lib.hid h1
    have h2H := Lib.hid h2
    replace hlen := Lib.hid hlen
    clear h1 h2
    generalize hR : decide (l1 = l2) = R
    replace hR := Lib.hid hR
    go_enter Tryd.func19, Tryd.ntmps19
    go_wp2_with fail
    go_loopw [5] (fun i wr => ∃ k : Nat, k ≤ l1.length ∧ i = .int .i64 k ∧ Hid (∀ j : Nat, j < k → l1[j]? = l2[j]?) ∧ Hid (Below w.heap.size w wr)) (fun i _ => l1.length - (intOf i).toNat)
    case atStart => exact ⟨0, by omega, rfl, fun j hj => absurd hj (Nat.not_lt_zero _), Below.refl _ _⟩
    case round =>
      obtain ⟨k, hk, rfl, hsame, hB⟩ := hrel
      by_cases hkn : k < l1.length
      · obtain ⟨b1, o1, rfl, hb1, hc1⟩ := h1H.out (by omega)
        obtain ⟨b2, o2, rfl, hb2, hc2⟩ := h2H.out (by have := hlen.out; omega)
        have hk2 : k < l2.length := by have := hlen.out; omega
        obtain ⟨m, hm⟩ : ∃ m, l1[k]? = some m := ⟨_, List.getElem?_eq_getElem hkn⟩
        obtain ⟨m', hm'⟩ : ∃ m, l2[k]? = some m := ⟨_, List.getElem?_eq_getElem hk2⟩
        obtain ⟨x0, x1, x2⟩ := rec3 hc1 hm
        obtain ⟨y0, y1, y2⟩ := rec3 hc2 hm'
        replace x0 := (hB.out.cell (p := ⟨b1, o1 + k * 3, none⟩) hb1).trans x0
        replace x1 := (hB.out.cell (p := ⟨b1, o1 + k * 3 + 1, none⟩) hb1).trans x1
        replace x2 := (hB.out.cell (p := ⟨b1, o1 + k * 3 + 2, none⟩) hb1).trans x2
        replace y0 := (hB.out.cell (p := ⟨b2, o2 + k * 3, none⟩) hb2).trans y0
        replace y1 := (hB.out.cell (p := ⟨b2, o2 + k * 3 + 1, none⟩) hb2).trans y1
        replace y2 := (hB.out.cell (p := ⟨b2, o2 + k * 3 + 2, none⟩) hb2).trans y2
        clear hc1 hc2
        obtain ⟨a, b, p⟩ := m
        obtain ⟨a', b', p'⟩ := m'
        simp only at x0 x1 x2 y0 y1 y2
        replace hm := Lib.hid hm
        replace hm' := Lib.hid hm'
        have hbad : (a, b, p) ≠ (a', b', p') → Hid (R = false) := fun hn => by
          show _ = _
          rw [← hR.out, decide_eq_false_iff_not]
          intro e
          have h3 := hm.out
          rw [e, hm'.out] at h3
          exact hn (Option.some.inj h3).symm
        by_cases he : (a, b, p) = (a', b', p')
        · obtain ⟨rfl, rfl, rfl⟩ : a = a' ∧ b = b' ∧ p = p' := by simpa using he
          clear he hbad
          go_wp2_with fail
          go_quiet (fail)
          go_wp2_with fail
          go_roundw
          case rel =>
            refine ⟨k + 1, by omega, by go_num, fun j hj => ?_, by first | exact hB.out | exact Lib.hid (below_drewN hB.out _)⟩
            by_cases hjk : j < k
            · exact hsame.out j hjk
            · obtain rfl : j = k := by omega
              rw [hm.out, hm'.out]
          case measure => simp [intOf]; omega
        · have hRf := hbad he
          clear hbad
          by_cases ha : a = a'
          · subst ha
            by_cases hb : b = b'
            · subst hb
              have hx : (p == p') = false := by rw [beq_eq_false_iff_ne]; intro e; exact he (by rw [e])
              clear he
              go_wp2_with fail
              go_quiet (fail)
              go_wp2_with fail
              go_ret
              exact ⟨by rw [hRf.out]; rfl, below_drewN hB.out _⟩
            · have hx : (b == b') = false := by rw [beq_eq_false_iff_ne]; exact hb
              clear he hb
              go_wp2_with fail
              go_quiet (fail)
              go_wp2_with fail
              go_ret
              exact ⟨by rw [hRf.out]; rfl, below_drewN hB.out _⟩
          · have hx : (a == a') = false := by rw [beq_eq_false_iff_ne]; exact ha
            clear he ha
            go_wp2_with fail
            go_quiet (fail)
            go_wp2_with fail
            go_ret
            exact ⟨by rw [hRf.out]; rfl, below_drewN hB.out _⟩
      · obtain rfl : k = l1.length := by omega
        have hRt : Hid (R = true) := by
          show _ = _
          rw [← hR.out, decide_eq_true_eq]
          apply List.ext_getElem?
          intro j
          by_cases hj : j < l1.length
          · exact hsame.out j hj
          · rw [List.getElem?_eq_none (by omega), List.getElem?_eq_none (by have := hlen.out; omega)]
        go_wp2_with fail
        go_ret
        exact ⟨by rw [hRt.out]; rfl, hB.out⟩
  · have hne : ((l1.length : Int) != (l2.length : Int)) = true := by rw [bne_iff_ne]; omega
    have hR : Hid (decide (l1 = l2) = false) := by
      show _ = _
      rw [decide_eq_false_iff_not]
      exact fun e => hlen (by rw [e])
    clear hlen
    go_enter Tryd.func19, Tryd.ntmps19
    go_wp2_with fail
    go_ret
    exact ⟨by rw [hR.out]; rfl, Below.refl _ _⟩
end Go.Proofs.YtlnphcdanadaeaaDoor
