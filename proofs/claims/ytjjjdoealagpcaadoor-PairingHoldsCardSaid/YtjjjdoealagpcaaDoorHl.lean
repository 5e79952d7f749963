/- Layer 43: two rounds that are equal. -/
import Derived.Test.YtjjjdoealagpcaaDoorHk
import Derived.BigQuiet
namespace Go.Proofs.YtjjjdoealagpcaaDoor
open Go Go.RowKit
set_option linter.unusedSimpArgs false
set_option linter.unusedVariables false
attribute [local go_sem ↓] Go.wp_at_zero Go.wp_at_succ
theorem RB.two (w : World) (x y x' y' : Value) : RB ((w.alloc (.cells #[x, y] 30)).alloc (.cells #[x', y'] 30)) w.heap.size x y ∧ RB ((w.alloc (.cells #[x, y] 30)).alloc (.cells #[x', y'] 30)) (w.heap.size + 1) x' y' ∧ Below w.heap.size w ((w.alloc (.cells #[x, y] 30)).alloc (.cells #[x', y'] 30)) := by
  have e1 : (w.alloc (.cells #[x, y] 30)).heap.size = w.heap.size + 1 := by simp
  refine ⟨(RB.new w x y).next ((Below.refl _ _).alloc (Nat.le_refl _) _), ?_, ((Below.refl _ _).alloc (Nat.le_refl _) _).alloc (by omega) _⟩
  have := RB.new (w.alloc (.cells #[x, y] 30)) x' y'
  rwa [e1] at this
set_option maxRecDepth 100000 in
set_option maxHeartbeats 4000000 in
theorem lsame (O V O' V' : Option Addr) (o : List Int) (v : List Bool) (n co cv co' cv' : Nat) (w : World) (hM : RM w O V o v) (hM' : RM w O' V' o v) (hol : o.length = n) (hvl : v.length = n) (h0 : 0 < n) (hn : n ≤ 100000) :
    Calls Tryd.prog 15 #[.agg #[.slice O n co, .slice V n cv], .agg #[.slice O' n co', .slice V' n cv']] w fun e w' => e = .returned (.bool true) ∧ Below w.heap.size w w' := by
  obtain ⟨bo, oo, bv, ov, rfl, rfl, hC⟩ := hM.rc (by omega) (by omega)
  obtain ⟨bp, op, bq, oq, rfl, rfl, hC'⟩ := hM'.rc (by omega) (by omega)
  obtain ⟨hX, hY, hb1⟩ := RB.two w (.slice (some ⟨bo, oo, none⟩) n co) (.slice (some ⟨bv, ov, none⟩) n cv) (.slice (some ⟨bp, op, none⟩) n co') (.slice (some ⟨bq, oq, none⟩) n cv')
  replace hC := Lib.hid (hC.next hb1)
  replace hC' := Lib.hid (hC'.next hb1)
  replace hX := Lib.hid hX
  replace hY := Lib.hid hY
  replace hb1 := Lib.hid hb1
  have hoH := Lib.hid hol
  have hvH := Lib.hid hvl
  have q : ((n : Int) != (n : Int)) = false := bne_self_eq_false _
  clear hM hM' hol hvl
  go_enter Tryd.func15, Tryd.ntmps15
  go_upto_region 1 with fail
  generalize w.heap.size = B0 at hX hY ⊢
  generalize (w.alloc (.cells #[.slice (some ⟨bo, oo, none⟩) n co, .slice (some ⟨bv, ov, none⟩) n cv] 30)).alloc (.cells #[.slice (some ⟨bp, op, none⟩) n co', .slice (some ⟨bq, oq, none⟩) n cv'] 30) = w2 at *
  have x0 := hX.out.c0
  have x1 := hX.out.c1
  have y0 := hY.out.c0
  have y1 := hY.out.c1
  go_wp2_with fail
  clear x0 x1 y0 y1
  go_loopw [5] (fun i wr => ∃ k : Nat, k ≤ n ∧ i = .int .i64 k ∧ Hid (Below w2.heap.size w2 wr)) (fun i _ => n - (intOf i).toNat)
  case atStart => exact ⟨0, by omega, rfl, Below.refl _ _⟩
  case round =>
    obtain ⟨k, hk, rfl, hB⟩ := hrel
    have hk0 : (0 : Int) ≤ (k : Int) := Int.natCast_nonneg _
    have x0 := (hX.out.next hB.out).c0
    have x1 := (hX.out.next hB.out).c1
    have y0 := (hY.out.next hB.out).c0
    have y1 := (hY.out.next hB.out).c1
    by_cases hkn : k < n
    · obtain ⟨x, hx⟩ : ∃ x, o[k]? = some x := ⟨_, List.getElem?_eq_getElem (by have := hoH.out; omega)⟩
      have e0 := (hC.out.next hB.out).co k x hx
      have e1 := (hC'.out.next hB.out).co k x hx
      have q1 : (x != x) = false := bne_self_eq_false _
      have hkI : (k : Int) < (n : Int) := by omega
      clear hx
      go_wp2_with fail
      go_quiet (fail)
      go_wp2_with fail
      go_roundw
      case rel => exact ⟨k + 1, by omega, by go_num, by first | exact Lib.hid (below_drewN hB.out _) | exact hB⟩
      case measure => simp [intOf]; omega
    obtain rfl : k = n := by omega
    go_wp2_with fail
    clear x0 x1 y0 y1
    obtain ⟨wo, hwo⟩ : ∃ wo, wo = wr := ⟨_, rfl⟩
    subst hwo
    go_loopw [6] (fun i wr => ∃ m : Nat, m ≤ k ∧ i = .int .i64 m ∧ Hid (Below w2.heap.size w2 wr)) (fun i _ => k - (intOf i).toNat)
    case atStart => exact ⟨0, by omega, rfl, hB⟩
    case round =>
      clear hB
      obtain ⟨m, hm, rfl, hB⟩ := hrel
      have hm0 : (0 : Int) ≤ (m : Int) := Int.natCast_nonneg _
      have x0 := (hX.out.next hB.out).c0
      have x1 := (hX.out.next hB.out).c1
      have y0 := (hY.out.next hB.out).c0
      have y1 := (hY.out.next hB.out).c1
      by_cases hmn : m < k
      · obtain ⟨x, hx⟩ : ∃ x, v[m]? = some x := ⟨_, List.getElem?_eq_getElem (by have := hvH.out; omega)⟩
        have e0 := (hC.out.next hB.out).cv m x hx
        have e1 := (hC'.out.next hB.out).cv m x hx
        have hmI : (m : Int) < (k : Int) := by omega
        clear hx
        cases x with
        | true =>
          go_wp2_with fail
          go_quiet (fail)
          go_wp2_with fail
          go_roundw
          case rel => exact ⟨m + 1, by omega, by go_num, by first | exact Lib.hid (below_drewN hB.out _) | exact hB⟩
          case measure => simp [intOf]; omega
        | false =>
          go_wp2_with fail
          go_quiet (fail)
          go_wp2_with fail
          go_roundw
          case rel => exact ⟨m + 1, by omega, by go_num, by first | exact Lib.hid (below_drewN hB.out _) | exact hB⟩
          case measure => simp [intOf]; omega
      obtain rfl : m = k := by omega
      go_wp2_with fail
      go_ret
      exact ⟨rfl, hb1.out.trans (hB.out.mono hb1.out.size)⟩
end Go.Proofs.YtjjjdoealagpcaaDoor
