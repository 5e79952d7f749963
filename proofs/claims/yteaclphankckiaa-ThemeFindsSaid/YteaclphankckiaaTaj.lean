/- Layer 35: the law of what is found: Find of the program and Find of the reference, on every tree. -/
import Derived.Test.YteaclphankckiaaTah
import Derived.Test.YteaclphankckiaaTaa
import Derived.Test.YteaclphankckiaaTad
namespace Go.Proofs.Yteaclphankckiaa
open Go Go.RowKit
set_option linter.unusedSimpArgs false
set_option linter.unusedVariables false
theorem rsameS_self (A1 A2 : Option Addr) (c1 c2 : Nat) (l : List Sh') (w : World) (h1 : RecAt shEnc 2 w w.heap.size A1 l) (h2 : RecAt shEnc 2 w w.heap.size A2 l) (hl : l.length ≤ 100000) :
    Calls Try.prog 15 #[.slice A1 l.length c1, .slice A2 l.length c2] w fun e w' => e = .returned (.bool true) ∧ Below w.heap.size w w' :=
  (rsameS A1 A2 c1 c2 l l w h1 h2 hl hl).mono fun e w' ⟨h3, h4⟩ => ⟨by rw [h3]; simp, h4⟩
set_option maxRecDepth 100000 in
set_option maxHeartbeats 4000000 in
theorem finds_far (f q : Int) (bk : Bool) (A : Option Addr) (t : List Nd) (c : Nat) (w : World) (hT : RecAt nEnc 4 w w.heap.size A t) (hc : t.length ≤ c) (hl : 100 < (t.length : Int)) :
    Calls Try.prog 4 #[.agg #[.int .i64 f, .int .i64 q], .bool bk, .slice A t.length c] w fun e w' => e = .returned (.bool true) ∧ Below w.heap.size w w' := by
  have hS := Lib.hid (Sz2.new w f q 23)
  have hb1 : Hid (Below w.heap.size w (w.alloc (.cells #[.int .i64 f, .int .i64 q] 23))) := (Below.refl _ _).alloc (Nat.le_refl _) _
  have hT1 := Lib.hid ((hT.below (Nat.le_refl _) hb1.out).more hb1.out.size)
  have hs1 : w.heap.size < (w.alloc (.cells #[.int .i64 f, .int .i64 q] 23)).heap.size := by simp
  clear hT
  go_enter Try.func4, Try.ntmps4
  go_upto_region 1 with fail
  generalize w.alloc (.cells #[.int .i64 f, .int .i64 q] 23) = w1 at *
  have c0 := hS.out.c0
  have c1 := hS.out.c1
  go_wp2_with fail
  go_at_call 8
  refine (known_35 w1).mono ?_
  rintro e wk ⟨rfl, hbk⟩
  replace hS := Lib.hid (hS.out.next hbk)
  replace hb1 := Lib.hid (hb1.out.trans (hbk.mono hb1.out.size))
  replace c0 := hS.out.c0
  replace c1 := hS.out.c1
  clear hbk
  go_wp2_with fail
  go_ret
  exact ⟨rfl, hb1.out⟩
set_option maxRecDepth 100000 in
set_option maxHeartbeats 4000000 in
theorem finds_no (f q : Int) (bk : Bool) (A : Option Addr) (t : List Nd) (c : Nat) (w : World) (hT : RecAt nEnc 4 w w.heap.size A t) (hc : t.length ≤ c) (hl : (t.length : Int) ≤ 100) (hv0 : treeB f q t = false) :
    Calls Try.prog 4 #[.agg #[.int .i64 f, .int .i64 q], .bool bk, .slice A t.length c] w fun e w' => e = .returned (.bool true) ∧ Below w.heap.size w w' := by
  have hv := Lib.hid hv0
  clear hv0
  have hS := Lib.hid (Sz2.new w f q 23)
  have hb1 : Hid (Below w.heap.size w (w.alloc (.cells #[.int .i64 f, .int .i64 q] 23))) := (Below.refl _ _).alloc (Nat.le_refl _) _
  have hT1 := Lib.hid ((hT.below (Nat.le_refl _) hb1.out).more hb1.out.size)
  have hs1 : w.heap.size < (w.alloc (.cells #[.int .i64 f, .int .i64 q] 23)).heap.size := by simp
  clear hT
  go_enter Try.func4, Try.ntmps4
  go_upto_region 1 with fail
  generalize w.alloc (.cells #[.int .i64 f, .int .i64 q] 23) = w1 at *
  have c0 := hS.out.c0
  have c1 := hS.out.c1
  go_wp2_with fail
  go_at_call 14
  refine (pfind_no f q bk A t c w1 hT1.out (by omega) hv.out).mono ?_
  rintro e w2 ⟨rfl, hb2⟩
  replace hS := Lib.hid (hS.out.next hb2)
  replace hT1 := Lib.hid ((hT1.out.below (Nat.le_refl _) hb2).more hb2.size)
  replace hb1 := Lib.hid (hb1.out.trans (hb2.mono hb1.out.size))
  replace c0 := hS.out.c0
  replace c1 := hS.out.c1
  clear hb2
  go_wp2_with fail
  go_at_call 11
  refine (rtree f q A t c w2 hT1.out (by omega) hc).mono ?_
  rw [hv.out]
  rintro e w3 ⟨rfl, hb3⟩
  replace hS := Lib.hid (hS.out.next hb3)
  replace hT1 := Lib.hid ((hT1.out.below (Nat.le_refl _) hb3).more hb3.size)
  replace hb1 := Lib.hid (hb1.out.trans (hb3.mono hb1.out.size))
  replace c0 := hS.out.c0
  replace c1 := hS.out.c1
  clear hb3
  go_wp2_with fail
  go_at_call 8
  refine (known_35 w3).mono ?_
  rintro e wk ⟨rfl, hbk⟩
  replace hS := Lib.hid (hS.out.next hbk)
  replace hb1 := Lib.hid (hb1.out.trans (hbk.mono hb1.out.size))
  replace c0 := hS.out.c0
  replace c1 := hS.out.c1
  clear hbk
  go_wp2_with fail
  go_ret
  exact ⟨rfl, hb1.out⟩
set_option maxRecDepth 100000 in
set_option maxHeartbeats 4000000 in
theorem finds_yes (f q : Int) (bk : Bool) (A : Option Addr) (t : List Nd) (c : Nat) (w : World) (hT : RecAt nEnc 4 w w.heap.size A t) (hc : t.length ≤ c) (hl : (t.length : Int) ≤ 100) (hv0 : treeB f q t = true) :
    Calls Try.prog 4 #[.agg #[.int .i64 f, .int .i64 q], .bool bk, .slice A t.length c] w fun e w' => e = .returned (.bool true) ∧ Below w.heap.size w w' := by
  have hv := Lib.hid hv0
  have hfl := fnd_len f q bk t t.length
  clear hv0
  have hS := Lib.hid (Sz2.new w f q 23)
  have hb1 : Hid (Below w.heap.size w (w.alloc (.cells #[.int .i64 f, .int .i64 q] 23))) := (Below.refl _ _).alloc (Nat.le_refl _) _
  have hT1 := Lib.hid ((hT.below (Nat.le_refl _) hb1.out).more hb1.out.size)
  have hs1 : w.heap.size < (w.alloc (.cells #[.int .i64 f, .int .i64 q] 23)).heap.size := by simp
  clear hT
  go_enter Try.func4, Try.ntmps4
  go_upto_region 1 with fail
  generalize w.alloc (.cells #[.int .i64 f, .int .i64 q] 23) = w1 at *
  have c0 := hS.out.c0
  have c1 := hS.out.c1
  go_wp2_with fail
  go_at_call 14
  refine (pfind_yes f q bk A t c w1 hT1.out (by omega) hv.out).mono ?_
  rintro e w2 ⟨Af, cf, rfl, hRf, hb2⟩
  replace hS := Lib.hid (hS.out.next hb2)
  replace hT1 := Lib.hid ((hT1.out.below (Nat.le_refl _) hb2).more hb2.size)
  replace hb1 := Lib.hid (hb1.out.trans (hb2.mono hb1.out.size))
  replace c0 := hS.out.c0
  replace c1 := hS.out.c1
  replace hRf := Lib.hid hRf
  clear hb2
  go_wp2_with fail
  go_at_call 11
  refine (rtree f q A t c w2 hT1.out (by omega) hc).mono ?_
  rw [hv.out]
  rintro e w3 ⟨rfl, hb3⟩
  replace hS := Lib.hid (hS.out.next hb3)
  replace hT1 := Lib.hid ((hT1.out.below (Nat.le_refl _) hb3).more hb3.size)
  replace hRf := Lib.hid ((hRf.out.below (Nat.le_refl _) hb3).more hb3.size)
  replace hb1 := Lib.hid (hb1.out.trans (hb3.mono hb1.out.size))
  replace c0 := hS.out.c0
  replace c1 := hS.out.c1
  clear hb3
  go_wp2_with fail
  go_at_call 16
  refine (rfind f q bk A t c w3 hT1.out (by omega) hv.out).mono ?_
  rintro e w4 ⟨Ag, cg, rfl, hO⟩
  have hb4 := hO.below
  have hRg := Lib.hid (hO.recs shEnc_len)
  clear hO
  replace hS := Lib.hid (hS.out.next hb4)
  replace hT1 := Lib.hid ((hT1.out.below (Nat.le_refl _) hb4).more hb4.size)
  replace hRf := Lib.hid ((hRf.out.below (Nat.le_refl _) hb4).more hb4.size)
  replace hb1 := Lib.hid (hb1.out.trans (hb4.mono hb1.out.size))
  replace c0 := hS.out.c0
  replace c1 := hS.out.c1
  clear hb4
  go_wp2_with fail
  go_at_call 15
  refine (rsameS_self Af Ag cf cg _ w4 hRf.out hRg.out (by omega)).mono ?_
  rintro e w5 ⟨rfl, hb5⟩
  replace hS := Lib.hid (hS.out.next hb5)
  replace hb1 := Lib.hid (hb1.out.trans (hb5.mono hb1.out.size))
  replace c0 := hS.out.c0
  replace c1 := hS.out.c1
  clear hb5
  go_wp2_with fail
  go_at_call 8
  refine (known_35 w5).mono ?_
  rintro e wk ⟨rfl, hbk⟩
  replace hS := Lib.hid (hS.out.next hbk)
  replace hb1 := Lib.hid (hb1.out.trans (hbk.mono hb1.out.size))
  replace c0 := hS.out.c0
  replace c1 := hS.out.c1
  clear hbk
  go_wp2_with fail
  go_ret
  exact ⟨rfl, hb1.out⟩
theorem law_finds (f q : Int) (bk : Bool) (A : Option Addr) (t : List Nd) (c : Nat) (w : World) (hT : RecAt nEnc 4 w w.heap.size A t) (hc : t.length ≤ c) : Calls Try.prog 4 #[.agg #[.int .i64 f, .int .i64 q], .bool bk, .slice A t.length c] w fun e w' => e = .returned (.bool true) ∧ Below w.heap.size w w' := by
  by_cases hl : 100 < (t.length : Int)
  · exact finds_far f q bk A t c w hT hc hl
  · cases hv : treeB f q t with
    | false => exact finds_no f q bk A t c w hT hc (by omega) hv
    | true => exact finds_yes f q bk A t c w hT hc (by omega) hv
end Go.Proofs.Yteaclphankckiaa
