/- Layer 35: ThemeHolds: has of the law; trees too long or not valid. -/
import Derived.Test.YteaclphankckiaaTah
import Derived.Test.YteaclphankckiaaTaa
import Derived.Test.YteaclphankckiaaTam
import Derived.BigRegion
namespace Go.Proofs.Yteaclphankckiaa
open Go Go.RowKit
set_option linter.unusedSimpArgs false
set_option linter.unusedVariables false
attribute [local go_sem ↓] Go.wp_at_zero Go.wp_at_succ
def memB (l : List Sh') (x : Sh') : Bool := decide (x ∈ l)
theorem memB_yes {l : List Sh'} {k : Nat} {x y : Sh'} (h : l[k]? = some x) (h2 : shE x y = true) : memB l y = true := decide_eq_true (by
  have h3 : x = y := of_decide_eq_true h2
  rw [← h3]; exact List.mem_of_getElem? h)
theorem memB_no {l : List Sh'} {y : Sh'} (h : ∀ (j : Nat) (x : Sh'), j < l.length → l[j]? = some x → shE x y = false) : memB l y = false := decide_eq_false fun hm => by
  obtain ⟨j, hj, e⟩ := List.getElem_of_mem hm
  have h1 := h j _ hj (List.getElem?_eq_getElem hj)
  exact of_decide_eq_false h1 e
set_option maxRecDepth 100000 in
set_option maxHeartbeats 4000000 in
theorem lhas (A : Option Addr) (c : Nat) (l : List Sh') (th at_ : Int) (w : World) (hA : RecAt shEnc 2 w w.heap.size A l) (hl : l.length ≤ 100000) :
    Calls Try.prog 22 #[.slice A l.length c, .int .i64 th, .int .i64 at_] w fun e w' => e = .returned (.bool (memB l (th, at_))) ∧ w = w' := by
  have hAH := Lib.hid hA
  clear hA
  go_enter Try.func22, Try.ntmps22
  go_wp2_with fail
  go_loop [7] (fun i => ∃ k : Nat, k ≤ l.length ∧ i = .int .i64 k ∧ Hid (∀ (j : Nat) (x : Sh'), j < k → l[j]? = some x → shE x (th, at_) = false)) (fun i => l.length - (intOf i).toNat)
  case atStart => exact ⟨0, by omega, rfl, fun j x hj => absurd hj (Nat.not_lt_zero _)⟩
  case round =>
    obtain ⟨k, hk, rfl, hgood⟩ := hrel
    by_cases hkn : k < l.length
    · obtain ⟨x, hx⟩ : ∃ x, l[k]? = some x := ⟨_, List.getElem?_eq_getElem hkn⟩
      obtain ⟨b, off, rfl, hb, m0, m1⟩ := sh2 hAH.out hx
      have hkI : (k : Int) < (l.length : Int) := by omega
      have hk0 : (0 : Int) ≤ (k : Int) := Int.natCast_nonneg _
      replace hx := Lib.hid hx
      obtain ⟨xa, xb⟩ := x
      have heq := fun w => run_eql_sh xa xb th at_ w
      clear hb
      rcases hv : shE (xa, xb) (th, at_) with _ | _
      · go_wp2_with fail
        go_round
        case rel =>
          refine ⟨k + 1, by omega, by go_num, fun j y hj hy => ?_⟩
          by_cases hjk : j < k
          · exact hgood.out j y hjk hy
          · obtain rfl : j = k := by omega
            rw [hx.out] at hy
            rw [← Option.some.inj hy]; exact hv
        case measure => simp [intOf]; omega
      · have hyes := Lib.hid (memB_yes hx.out hv)
        go_wp2_with fail
        go_ret
        exact ⟨by rw [hyes.out]; rfl, rfl⟩
    · obtain rfl : k = l.length := by omega
      have hno := Lib.hid (memB_no hgood.out)
      go_wp2_with fail
      go_ret
      exact ⟨by rw [hno.out]; rfl, rfl⟩
theorem recs_tk {w : World} {B : Nat} {A : Option Addr} {t : List Nd} (h : RecAt nEnc 4 w B A t) (m : Nat) : RecAt nEnc 4 w B A (t.take m) := by
  intro h0
  have hl : (t.take m).length ≤ t.length := by rw [List.length_take]; omega
  obtain ⟨b, off, e, hb, hc⟩ := h (by omega)
  refine ⟨b, off, e, hb, fun k x hx => hc k x ?_⟩
  have hk := (List.getElem?_eq_some_iff.1 hx).1
  rw [List.length_take] at hk
  rwa [List.getElem?_take, if_pos (by omega)] at hx
set_option maxRecDepth 100000 in
set_option maxHeartbeats 4000000 in
theorem holds_far (f q : Int) (bk : Bool) (A : Option Addr) (t : List Nd) (c : Nat) (kp : Int) (w : World) (hT : RecAt nEnc 4 w w.heap.size A t) (hc : t.length ≤ c) (hcm : c ≤ maxLen) (hl : 100 < (t.length : Int)) :
    Calls Try.prog 6 #[.agg #[.int .i64 f, .int .i64 q], .bool bk, .slice A t.length c, .int .i64 kp] w fun e w' => e = .returned (.bool true) ∧ Below w.heap.size w w' := by
  have hS := Lib.hid (Sz2.new w f q 23)
  have hb1 : Hid (Below w.heap.size w (w.alloc (.cells #[.int .i64 f, .int .i64 q] 23))) := (Below.refl _ _).alloc (Nat.le_refl _) _
  have hT1 := Lib.hid ((hT.below (Nat.le_refl _) hb1.out).more hb1.out.size)
  have hs1 : w.heap.size < (w.alloc (.cells #[.int .i64 f, .int .i64 q] 23)).heap.size := by simp
  clear hT
  go_enter Try.func6, Try.ntmps6
  go_upto_region 1 with fail
  generalize w.alloc (.cells #[.int .i64 f, .int .i64 q] 23) = w1 at *
  have c0 := hS.out.c0
  have c1 := hS.out.c1
  go_wp2_with fail
  go_at_call 8
  refine (known_35 w1).mono ?_
  rintro e wk ⟨rfl, hbk⟩
  replace hS := Lib.hid (hS.out.next hbk)
  replace hb1 := Lib.hid (hb1.out.trans (hbk.mono hb1.out.size))
  replace c0 := hS.out.c0
  replace c1 := hS.out.c1
  clear hbk
  go_wp2_with fail
  go_ret
  exact ⟨rfl, hb1.out⟩
set_option maxRecDepth 100000 in
set_option maxHeartbeats 4000000 in
theorem holds_neg (f q : Int) (bk : Bool) (A : Option Addr) (t : List Nd) (c : Nat) (kp : Int) (w : World) (hT : RecAt nEnc 4 w w.heap.size A t) (hc : t.length ≤ c) (hcm : c ≤ maxLen) (hl : (t.length : Int) ≤ 100) (hk : kp < 0) :
    Calls Try.prog 6 #[.agg #[.int .i64 f, .int .i64 q], .bool bk, .slice A t.length c, .int .i64 kp] w fun e w' => e = .returned (.bool true) ∧ Below w.heap.size w w' := by
  have hS := Lib.hid (Sz2.new w f q 23)
  have hb1 : Hid (Below w.heap.size w (w.alloc (.cells #[.int .i64 f, .int .i64 q] 23))) := (Below.refl _ _).alloc (Nat.le_refl _) _
  have hT1 := Lib.hid ((hT.below (Nat.le_refl _) hb1.out).more hb1.out.size)
  have hs1 : w.heap.size < (w.alloc (.cells #[.int .i64 f, .int .i64 q] 23)).heap.size := by simp
  clear hT
  go_enter Try.func6, Try.ntmps6
  go_upto_region 1 with fail
  generalize w.alloc (.cells #[.int .i64 f, .int .i64 q] 23) = w1 at *
  have c0 := hS.out.c0
  have c1 := hS.out.c1
  go_wp2_with fail
  go_at_call 8
  refine (known_35 w1).mono ?_
  rintro e wk ⟨rfl, hbk⟩
  replace hS := Lib.hid (hS.out.next hbk)
  replace hb1 := Lib.hid (hb1.out.trans (hbk.mono hb1.out.size))
  replace c0 := hS.out.c0
  replace c1 := hS.out.c1
  clear hbk
  go_wp2_with fail
  go_ret
  exact ⟨rfl, hb1.out⟩
set_option maxRecDepth 100000 in
set_option maxHeartbeats 4000000 in
theorem holds_big (f q : Int) (bk : Bool) (A : Option Addr) (t : List Nd) (c : Nat) (kp : Int) (w : World) (hT : RecAt nEnc 4 w w.heap.size A t) (hc : t.length ≤ c) (hcm : c ≤ maxLen) (hl : (t.length : Int) ≤ 100) (hk : 0 ≤ kp) (hk2 : (t.length : Int) < kp) :
    Calls Try.prog 6 #[.agg #[.int .i64 f, .int .i64 q], .bool bk, .slice A t.length c, .int .i64 kp] w fun e w' => e = .returned (.bool true) ∧ Below w.heap.size w w' := by
  have hS := Lib.hid (Sz2.new w f q 23)
  have hb1 : Hid (Below w.heap.size w (w.alloc (.cells #[.int .i64 f, .int .i64 q] 23))) := (Below.refl _ _).alloc (Nat.le_refl _) _
  have hT1 := Lib.hid ((hT.below (Nat.le_refl _) hb1.out).more hb1.out.size)
  have hs1 : w.heap.size < (w.alloc (.cells #[.int .i64 f, .int .i64 q] 23)).heap.size := by simp
  clear hT
  go_enter Try.func6, Try.ntmps6
  go_upto_region 1 with fail
  generalize w.alloc (.cells #[.int .i64 f, .int .i64 q] 23) = w1 at *
  have c0 := hS.out.c0
  have c1 := hS.out.c1
  go_wp2_with fail
  go_at_call 8
  refine (known_35 w1).mono ?_
  rintro e wk ⟨rfl, hbk⟩
  replace hS := Lib.hid (hS.out.next hbk)
  replace hb1 := Lib.hid (hb1.out.trans (hbk.mono hb1.out.size))
  replace c0 := hS.out.c0
  replace c1 := hS.out.c1
  clear hbk
  go_wp2_with fail
  go_ret
  exact ⟨rfl, hb1.out⟩
end Go.Proofs.Yteaclphankckiaa
