/- Layer 35: the law of paths: Path of the program and Path of the reference, at every place of every tree. -/
import Derived.Test.YteaclphankckiaaTah
import Derived.Test.YteaclphankckiaaTaa
import Derived.Test.YteaclphankckiaaTh
namespace Go.Proofs.Yteaclphankckiaa
open Go Go.RowKit
set_option linter.unusedSimpArgs false
set_option linter.unusedVariables false
theorem requal2_self (A1 A2 : Option Addr) (c1 c2 : Nat) (l : List Nd) (w : World) (h1 : RecAt nEnc 4 w w.heap.size A1 l) (h2 : RecAt nEnc 4 w w.heap.size A2 l) (hl : l.length ≤ 100000) :
    Calls Try.prog 10 #[.slice A1 l.length c1, .slice A2 l.length c2] w fun e w' => e = .returned (.bool true) ∧ Below w.heap.size w w' :=
  (requal2 A1 A2 c1 c2 l l w h1 h2 hl hl).mono fun e w' ⟨h3, h4⟩ => ⟨by rw [h3]; simp, h4⟩
theorem rsameI2_self (A1 A2 : Option Addr) (c1 c2 : Nat) (l : List Int) (w : World) (h1 : RecAt iEnc 1 w w.heap.size A1 l) (h2 : RecAt iEnc 1 w w.heap.size A2 l) (hl : l.length ≤ 100000) :
    Calls Try.prog 12 #[.slice A1 l.length c1, .slice A2 l.length c2] w fun e w' => e = .returned (.bool true) ∧ Below w.heap.size w w' :=
  (rsameI2 A1 A2 c1 c2 l l w h1 h2 hl hl).mono fun e w' ⟨h3, h4⟩ => ⟨by rw [h3]; simp, h4⟩
set_option maxRecDepth 100000 in
set_option maxHeartbeats 4000000 in
theorem paths_far (f q i : Int) (A : Option Addr) (t : List Nd) (c : Nat) (w : World) (hT : RecAt nEnc 4 w w.heap.size A t) (hc : t.length ≤ c) (hl : 100 < (t.length : Int)) :
    Calls Try.prog 3 #[.agg #[.int .i64 f, .int .i64 q], .slice A t.length c, .int .i64 i] w fun e w' => e = .returned (.bool true) ∧ Below w.heap.size w w' := by
  have hS := Lib.hid (Sz2.new w f q 23)
  have hb1 : Hid (Below w.heap.size w (w.alloc (.cells #[.int .i64 f, .int .i64 q] 23))) := (Below.refl _ _).alloc (Nat.le_refl _) _
  have hT1 := Lib.hid ((hT.below (Nat.le_refl _) hb1.out).more hb1.out.size)
  have hs1 : w.heap.size < (w.alloc (.cells #[.int .i64 f, .int .i64 q] 23)).heap.size := by simp
  clear hT
  go_enter Try.func3, Try.ntmps3
  go_upto_region 1 with fail
  generalize w.alloc (.cells #[.int .i64 f, .int .i64 q] 23) = w1 at *
  have c0 := hS.out.c0
  have c1 := hS.out.c1
  go_wp2_with fail
  go_at_call 8
  refine (known_35 w1).mono ?_
  rintro e wk ⟨rfl, hbk⟩
  replace hS := Lib.hid (hS.out.next hbk)
  replace hb1 := Lib.hid (hb1.out.trans (hbk.mono hb1.out.size))
  replace c0 := hS.out.c0
  replace c1 := hS.out.c1
  clear hbk
  go_wp2_with fail
  go_ret
  exact ⟨rfl, hb1.out⟩
set_option maxRecDepth 100000 in
set_option maxHeartbeats 4000000 in
theorem paths_inv (f q i : Int) (A : Option Addr) (t : List Nd) (c : Nat) (w : World) (hT : RecAt nEnc 4 w w.heap.size A t) (hc : t.length ≤ c) (hl : (t.length : Int) ≤ 100) (hv0 : treeB f q t = false) :
    Calls Try.prog 3 #[.agg #[.int .i64 f, .int .i64 q], .slice A t.length c, .int .i64 i] w fun e w' => e = .returned (.bool true) ∧ Below w.heap.size w w' := by
  have hv := Lib.hid hv0
  clear hv0
  have hS := Lib.hid (Sz2.new w f q 23)
  have hb1 : Hid (Below w.heap.size w (w.alloc (.cells #[.int .i64 f, .int .i64 q] 23))) := (Below.refl _ _).alloc (Nat.le_refl _) _
  have hT1 := Lib.hid ((hT.below (Nat.le_refl _) hb1.out).more hb1.out.size)
  have hs1 : w.heap.size < (w.alloc (.cells #[.int .i64 f, .int .i64 q] 23)).heap.size := by simp
  clear hT
  go_enter Try.func3, Try.ntmps3
  go_upto_region 1 with fail
  generalize w.alloc (.cells #[.int .i64 f, .int .i64 q] 23) = w1 at *
  have c0 := hS.out.c0
  have c1 := hS.out.c1
  go_wp2_with (at_builtin; refine wpList_append_recs nodeRow nEnc_len nEnc_one rfl _ _ rfl w1.heap.size none 0 [] rfl owns_nil A c t rfl hT1.out (by simp only [List.length_nil]; omega) (Nat.le_refl _) ?_; intro A2 c2 w2 hown hg _; rw [List.nil_append] at hown ⊢; have hO : O1 nEnc 4 w1.heap.size 59 w1 w2 A2 c2 t := (O1.nil (Below.refl _ _) (Nat.le_refl _)).app hown hg; have hb2 := hO.below; have hR2 := Lib.hid (hO.recs nEnc_len); clear hO hown hg; replace hS := Lib.hid (hS.out.next hb2); replace hT1 := Lib.hid ((hT1.out.below (Nat.le_refl _) hb2).more hb2.size); replace hb1 := Lib.hid (hb1.out.trans (hb2.mono hb1.out.size)); replace c0 := hS.out.c0; replace c1 := hS.out.c1; clear hb2)
  go_at_call 9
  refine (ppath_inv f q i A2 t c2 w2 hR2.out (by omega) hv.out).mono ?_
  rintro e w3 ⟨rfl, hb3⟩
  replace hS := Lib.hid (hS.out.next hb3)
  replace hT1 := Lib.hid ((hT1.out.below (Nat.le_refl _) hb3).more hb3.size)
  replace hR2 := Lib.hid ((hR2.out.below (Nat.le_refl _) hb3).more hb3.size)
  replace hb1 := Lib.hid (hb1.out.trans (hb3.mono hb1.out.size))
  replace c0 := hS.out.c0
  replace c1 := hS.out.c1
  clear hb3
  go_wp2_with fail
  go_at_call 10
  refine (requal2_self A2 A c2 c t w3 hR2.out hT1.out (by omega)).mono ?_
  rintro e w4 ⟨rfl, hb4⟩
  replace hS := Lib.hid (hS.out.next hb4)
  replace hT1 := Lib.hid ((hT1.out.below (Nat.le_refl _) hb4).more hb4.size)
  replace hb1 := Lib.hid (hb1.out.trans (hb4.mono hb1.out.size))
  replace c0 := hS.out.c0
  replace c1 := hS.out.c1
  clear hb4
  go_wp2_with fail
  go_at_call 11
  refine (rtree f q A t c w4 hT1.out (by omega) hc).mono ?_
  rw [hv.out]
  rintro e w5 ⟨rfl, hb5⟩
  replace hS := Lib.hid (hS.out.next hb5)
  replace hT1 := Lib.hid ((hT1.out.below (Nat.le_refl _) hb5).more hb5.size)
  replace hb1 := Lib.hid (hb1.out.trans (hb5.mono hb1.out.size))
  replace c0 := hS.out.c0
  replace c1 := hS.out.c1
  clear hb5
  go_wp2_with fail
  go_at_call 8
  refine (known_35 w5).mono ?_
  rintro e wk ⟨rfl, hbk⟩
  replace hS := Lib.hid (hS.out.next hbk)
  replace hb1 := Lib.hid (hb1.out.trans (hbk.mono hb1.out.size))
  replace c0 := hS.out.c0
  replace c1 := hS.out.c1
  clear hbk
  go_wp2_with fail
  go_ret
  exact ⟨rfl, hb1.out⟩
set_option maxRecDepth 100000 in
set_option maxHeartbeats 4000000 in
theorem paths_lo (f q i : Int) (A : Option Addr) (t : List Nd) (c : Nat) (w : World) (hT : RecAt nEnc 4 w w.heap.size A t) (hc : t.length ≤ c) (hl : (t.length : Int) ≤ 100) (hv0 : treeB f q t = true) (hi : i < 0) :
    Calls Try.prog 3 #[.agg #[.int .i64 f, .int .i64 q], .slice A t.length c, .int .i64 i] w fun e w' => e = .returned (.bool true) ∧ Below w.heap.size w w' := by
  have hv := Lib.hid hv0
  clear hv0
  have hS := Lib.hid (Sz2.new w f q 23)
  have hb1 : Hid (Below w.heap.size w (w.alloc (.cells #[.int .i64 f, .int .i64 q] 23))) := (Below.refl _ _).alloc (Nat.le_refl _) _
  have hT1 := Lib.hid ((hT.below (Nat.le_refl _) hb1.out).more hb1.out.size)
  have hs1 : w.heap.size < (w.alloc (.cells #[.int .i64 f, .int .i64 q] 23)).heap.size := by simp
  clear hT
  go_enter Try.func3, Try.ntmps3
  go_upto_region 1 with fail
  generalize w.alloc (.cells #[.int .i64 f, .int .i64 q] 23) = w1 at *
  have c0 := hS.out.c0
  have c1 := hS.out.c1
  go_wp2_with (at_builtin; refine wpList_append_recs nodeRow nEnc_len nEnc_one rfl _ _ rfl w1.heap.size none 0 [] rfl owns_nil A c t rfl hT1.out (by simp only [List.length_nil]; omega) (Nat.le_refl _) ?_; intro A2 c2 w2 hown hg _; rw [List.nil_append] at hown ⊢; have hO : O1 nEnc 4 w1.heap.size 59 w1 w2 A2 c2 t := (O1.nil (Below.refl _ _) (Nat.le_refl _)).app hown hg; have hb2 := hO.below; have hR2 := Lib.hid (hO.recs nEnc_len); clear hO hown hg; replace hS := Lib.hid (hS.out.next hb2); replace hT1 := Lib.hid ((hT1.out.below (Nat.le_refl _) hb2).more hb2.size); replace hb1 := Lib.hid (hb1.out.trans (hb2.mono hb1.out.size)); replace c0 := hS.out.c0; replace c1 := hS.out.c1; clear hb2)
  go_at_call 9
  refine (ppath_out f q i A2 t c2 w2 hR2.out (by omega) hv.out (Or.inl hi)).mono ?_
  rintro e w3 ⟨rfl, hb3⟩
  replace hS := Lib.hid (hS.out.next hb3)
  replace hT1 := Lib.hid ((hT1.out.below (Nat.le_refl _) hb3).more hb3.size)
  replace hR2 := Lib.hid ((hR2.out.below (Nat.le_refl _) hb3).more hb3.size)
  replace hb1 := Lib.hid (hb1.out.trans (hb3.mono hb1.out.size))
  replace c0 := hS.out.c0
  replace c1 := hS.out.c1
  clear hb3
  go_wp2_with fail
  go_at_call 10
  refine (requal2_self A2 A c2 c t w3 hR2.out hT1.out (by omega)).mono ?_
  rintro e w4 ⟨rfl, hb4⟩
  replace hS := Lib.hid (hS.out.next hb4)
  replace hT1 := Lib.hid ((hT1.out.below (Nat.le_refl _) hb4).more hb4.size)
  replace hb1 := Lib.hid (hb1.out.trans (hb4.mono hb1.out.size))
  replace c0 := hS.out.c0
  replace c1 := hS.out.c1
  clear hb4
  go_wp2_with fail
  go_at_call 11
  refine (rtree f q A t c w4 hT1.out (by omega) hc).mono ?_
  rw [hv.out]
  rintro e w5 ⟨rfl, hb5⟩
  replace hS := Lib.hid (hS.out.next hb5)
  replace hT1 := Lib.hid ((hT1.out.below (Nat.le_refl _) hb5).more hb5.size)
  replace hb1 := Lib.hid (hb1.out.trans (hb5.mono hb1.out.size))
  replace c0 := hS.out.c0
  replace c1 := hS.out.c1
  clear hb5
  go_wp2_with fail
  go_at_call 8
  refine (known_35 w5).mono ?_
  rintro e wk ⟨rfl, hbk⟩
  replace hS := Lib.hid (hS.out.next hbk)
  replace hb1 := Lib.hid (hb1.out.trans (hbk.mono hb1.out.size))
  replace c0 := hS.out.c0
  replace c1 := hS.out.c1
  clear hbk
  go_wp2_with fail
  go_ret
  exact ⟨rfl, hb1.out⟩
set_option maxRecDepth 100000 in
set_option maxHeartbeats 4000000 in
theorem paths_hi (f q i : Int) (A : Option Addr) (t : List Nd) (c : Nat) (w : World) (hT : RecAt nEnc 4 w w.heap.size A t) (hc : t.length ≤ c) (hl : (t.length : Int) ≤ 100) (hv0 : treeB f q t = true) (hi : 0 ≤ i) (hi2 : (t.length : Int) ≤ i) :
    Calls Try.prog 3 #[.agg #[.int .i64 f, .int .i64 q], .slice A t.length c, .int .i64 i] w fun e w' => e = .returned (.bool true) ∧ Below w.heap.size w w' := by
  have hv := Lib.hid hv0
  clear hv0
  have hS := Lib.hid (Sz2.new w f q 23)
  have hb1 : Hid (Below w.heap.size w (w.alloc (.cells #[.int .i64 f, .int .i64 q] 23))) := (Below.refl _ _).alloc (Nat.le_refl _) _
  have hT1 := Lib.hid ((hT.below (Nat.le_refl _) hb1.out).more hb1.out.size)
  have hs1 : w.heap.size < (w.alloc (.cells #[.int .i64 f, .int .i64 q] 23)).heap.size := by simp
  clear hT
  go_enter Try.func3, Try.ntmps3
  go_upto_region 1 with fail
  generalize w.alloc (.cells #[.int .i64 f, .int .i64 q] 23) = w1 at *
  have c0 := hS.out.c0
  have c1 := hS.out.c1
  go_wp2_with (at_builtin; refine wpList_append_recs nodeRow nEnc_len nEnc_one rfl _ _ rfl w1.heap.size none 0 [] rfl owns_nil A c t rfl hT1.out (by simp only [List.length_nil]; omega) (Nat.le_refl _) ?_; intro A2 c2 w2 hown hg _; rw [List.nil_append] at hown ⊢; have hO : O1 nEnc 4 w1.heap.size 59 w1 w2 A2 c2 t := (O1.nil (Below.refl _ _) (Nat.le_refl _)).app hown hg; have hb2 := hO.below; have hR2 := Lib.hid (hO.recs nEnc_len); clear hO hown hg; replace hS := Lib.hid (hS.out.next hb2); replace hT1 := Lib.hid ((hT1.out.below (Nat.le_refl _) hb2).more hb2.size); replace hb1 := Lib.hid (hb1.out.trans (hb2.mono hb1.out.size)); replace c0 := hS.out.c0; replace c1 := hS.out.c1; clear hb2)
  go_at_call 9
  refine (ppath_out f q i A2 t c2 w2 hR2.out (by omega) hv.out (Or.inr ⟨hi, hi2⟩)).mono ?_
  rintro e w3 ⟨rfl, hb3⟩
  replace hS := Lib.hid (hS.out.next hb3)
  replace hT1 := Lib.hid ((hT1.out.below (Nat.le_refl _) hb3).more hb3.size)
  replace hR2 := Lib.hid ((hR2.out.below (Nat.le_refl _) hb3).more hb3.size)
  replace hb1 := Lib.hid (hb1.out.trans (hb3.mono hb1.out.size))
  replace c0 := hS.out.c0
  replace c1 := hS.out.c1
  clear hb3
  go_wp2_with fail
  go_at_call 10
  refine (requal2_self A2 A c2 c t w3 hR2.out hT1.out (by omega)).mono ?_
  rintro e w4 ⟨rfl, hb4⟩
  replace hS := Lib.hid (hS.out.next hb4)
  replace hT1 := Lib.hid ((hT1.out.below (Nat.le_refl _) hb4).more hb4.size)
  replace hb1 := Lib.hid (hb1.out.trans (hb4.mono hb1.out.size))
  replace c0 := hS.out.c0
  replace c1 := hS.out.c1
  clear hb4
  go_wp2_with fail
  go_at_call 11
  refine (rtree f q A t c w4 hT1.out (by omega) hc).mono ?_
  rw [hv.out]
  rintro e w5 ⟨rfl, hb5⟩
  replace hS := Lib.hid (hS.out.next hb5)
  replace hT1 := Lib.hid ((hT1.out.below (Nat.le_refl _) hb5).more hb5.size)
  replace hb1 := Lib.hid (hb1.out.trans (hb5.mono hb1.out.size))
  replace c0 := hS.out.c0
  replace c1 := hS.out.c1
  clear hb5
  go_wp2_with fail
  go_at_call 8
  refine (known_35 w5).mono ?_
  rintro e wk ⟨rfl, hbk⟩
  replace hS := Lib.hid (hS.out.next hbk)
  replace hb1 := Lib.hid (hb1.out.trans (hbk.mono hb1.out.size))
  replace c0 := hS.out.c0
  replace c1 := hS.out.c1
  clear hbk
  go_wp2_with fail
  go_ret
  exact ⟨rfl, hb1.out⟩
set_option maxRecDepth 100000 in
set_option maxHeartbeats 4000000 in
theorem paths_yes (f q : Int) (k : Nat) (A : Option Addr) (t : List Nd) (c : Nat) (w : World) (hT : RecAt nEnc 4 w w.heap.size A t) (hc : t.length ≤ c) (hl : (t.length : Int) ≤ 100) (hv0 : treeB f q t = true) (hk0 : k < t.length) (i : Int) (hi0 : (k : Int) = i) :
    Calls Try.prog 3 #[.agg #[.int .i64 f, .int .i64 q], .slice A t.length c, .int .i64 i] w fun e w' => e = .returned (.bool true) ∧ Below w.heap.size w w' := by
  have hv := Lib.hid hv0
  have hk := Lib.hid hk0
  have hi := Lib.hid hi0
  have hi1 : 0 ≤ i := by omega
  have hi2 : i < (t.length : Int) := by omega
  obtain ⟨x, hx⟩ : ∃ x, t[k]? = some x := ⟨_, List.getElem?_eq_getElem hk0⟩
  have hch := okK_chain (treeB_out hv0).2 (k := k + 1) (by omega)
  have hpl := (okK_ply (treeB_out hv0).2 (k := k + 1) (by omega)).2
  have hlen := Lib.hid (show (pth (back t (k + 1))).length ≤ 100000 by
    have h1 := (pth_len hch (by rw [back_succ hx]; exact List.cons_ne_nil _ _)).2
    omega)
  have hpy := Lib.hid (fun W A2 c2 (hR : RecAt nEnc 4 W W.heap.size A2 t) => ppath_yes f q k A2 t c2 W hR (by omega) hv0 hk0)
  have hrp := Lib.hid (fun W (hR : RecAt nEnc 4 W W.heap.size A t) => rpath A t c k x W hR (by omega) hx hch (by rw [back_succ hx] at hpl; have h3 : x.1 ≤ _ := hpl; omega))
  clear hx hch hpl
  rw [hi0] at hpy hrp
  clear hv0 hk0 hi0
  have hS := Lib.hid (Sz2.new w f q 23)
  have hb1 : Hid (Below w.heap.size w (w.alloc (.cells #[.int .i64 f, .int .i64 q] 23))) := (Below.refl _ _).alloc (Nat.le_refl _) _
  have hT1 := Lib.hid ((hT.below (Nat.le_refl _) hb1.out).more hb1.out.size)
  have hs1 : w.heap.size < (w.alloc (.cells #[.int .i64 f, .int .i64 q] 23)).heap.size := by simp
  clear hT
  go_enter Try.func3, Try.ntmps3
  go_upto_region 1 with fail
  generalize w.alloc (.cells #[.int .i64 f, .int .i64 q] 23) = w1 at *
  have c0 := hS.out.c0
  have c1 := hS.out.c1
  go_wp2_with (at_builtin; refine wpList_append_recs nodeRow nEnc_len nEnc_one rfl _ _ rfl w1.heap.size none 0 [] rfl owns_nil A c t rfl hT1.out (by simp only [List.length_nil]; omega) (Nat.le_refl _) ?_; intro A2 c2 w2 hown hg _; rw [List.nil_append] at hown ⊢; have hO : O1 nEnc 4 w1.heap.size 59 w1 w2 A2 c2 t := (O1.nil (Below.refl _ _) (Nat.le_refl _)).app hown hg; have hb2 := hO.below; have hR2 := Lib.hid (hO.recs nEnc_len); clear hO hown hg; replace hS := Lib.hid (hS.out.next hb2); replace hT1 := Lib.hid ((hT1.out.below (Nat.le_refl _) hb2).more hb2.size); replace hb1 := Lib.hid (hb1.out.trans (hb2.mono hb1.out.size)); replace c0 := hS.out.c0; replace c1 := hS.out.c1; clear hb2)
  go_at_call 9
  refine (hpy.out w2 A2 c2 hR2.out).mono ?_
  rintro e w3 ⟨Ap, cp, rfl, hRp, hb3⟩
  replace hS := Lib.hid (hS.out.next hb3)
  replace hT1 := Lib.hid ((hT1.out.below (Nat.le_refl _) hb3).more hb3.size)
  replace hR2 := Lib.hid ((hR2.out.below (Nat.le_refl _) hb3).more hb3.size)
  replace hb1 := Lib.hid (hb1.out.trans (hb3.mono hb1.out.size))
  replace c0 := hS.out.c0
  replace c1 := hS.out.c1
  replace hRp := Lib.hid hRp
  clear hb3
  go_wp2_with fail
  go_at_call 10
  refine (requal2_self A2 A c2 c t w3 hR2.out hT1.out (by omega)).mono ?_
  rintro e w4 ⟨rfl, hb4⟩
  replace hS := Lib.hid (hS.out.next hb4)
  replace hT1 := Lib.hid ((hT1.out.below (Nat.le_refl _) hb4).more hb4.size)
  replace hRp := Lib.hid ((hRp.out.below (Nat.le_refl _) hb4).more hb4.size)
  replace hb1 := Lib.hid (hb1.out.trans (hb4.mono hb1.out.size))
  replace c0 := hS.out.c0
  replace c1 := hS.out.c1
  clear hb4
  go_wp2_with fail
  go_at_call 11
  refine (rtree f q A t c w4 hT1.out (by omega) hc).mono ?_
  rw [hv.out]
  rintro e w5 ⟨rfl, hb5⟩
  replace hS := Lib.hid (hS.out.next hb5)
  replace hT1 := Lib.hid ((hT1.out.below (Nat.le_refl _) hb5).more hb5.size)
  replace hRp := Lib.hid ((hRp.out.below (Nat.le_refl _) hb5).more hb5.size)
  replace hb1 := Lib.hid (hb1.out.trans (hb5.mono hb1.out.size))
  replace c0 := hS.out.c0
  replace c1 := hS.out.c1
  clear hb5
  go_wp2_with fail
  go_at_call 13
  refine (hrp.out w5 hT1.out).mono ?_
  rintro e w6 ⟨Ag, cg, rfl, hO⟩
  have hb6 := hO.below
  have hRg := Lib.hid (hO.recs iEnc_len)
  clear hO
  replace hS := Lib.hid (hS.out.next hb6)
  replace hT1 := Lib.hid ((hT1.out.below (Nat.le_refl _) hb6).more hb6.size)
  replace hRp := Lib.hid ((hRp.out.below (Nat.le_refl _) hb6).more hb6.size)
  replace hb1 := Lib.hid (hb1.out.trans (hb6.mono hb1.out.size))
  replace c0 := hS.out.c0
  replace c1 := hS.out.c1
  clear hb6
  go_wp2_with fail
  go_at_call 12
  refine (rsameI2_self Ap Ag cp cg _ w6 hRp.out hRg.out hlen.out).mono ?_
  rintro e w7 ⟨rfl, hb7⟩
  replace hS := Lib.hid (hS.out.next hb7)
  replace hb1 := Lib.hid (hb1.out.trans (hb7.mono hb1.out.size))
  replace c0 := hS.out.c0
  replace c1 := hS.out.c1
  clear hb7
  go_wp2_with fail
  go_at_call 8
  refine (known_35 w7).mono ?_
  rintro e wk ⟨rfl, hbk⟩
  replace hS := Lib.hid (hS.out.next hbk)
  replace hb1 := Lib.hid (hb1.out.trans (hbk.mono hb1.out.size))
  replace c0 := hS.out.c0
  replace c1 := hS.out.c1
  clear hbk
  go_wp2_with fail
  go_ret
  exact ⟨rfl, hb1.out⟩
theorem law_paths (f q i : Int) (A : Option Addr) (t : List Nd) (c : Nat) (w : World) (hT : RecAt nEnc 4 w w.heap.size A t) (hc : t.length ≤ c) : Calls Try.prog 3 #[.agg #[.int .i64 f, .int .i64 q], .slice A t.length c, .int .i64 i] w fun e w' => e = .returned (.bool true) ∧ Below w.heap.size w w' := by
  by_cases hl : 100 < (t.length : Int)
  · exact paths_far f q i A t c w hT hc hl
  · cases hv : treeB f q t with
    | false => exact paths_inv f q i A t c w hT hc (by omega) hv
    | true =>
      by_cases hi : i < 0
      · exact paths_lo f q i A t c w hT hc (by omega) hv hi
      · by_cases hi2 : (t.length : Int) ≤ i
        · exact paths_hi f q i A t c w hT hc (by omega) hv (by omega) hi2
        · exact paths_yes f q i.toNat A t c w hT hc (by omega) hv (by omega) i (by omega)
end Go.Proofs.Yteaclphankckiaa
