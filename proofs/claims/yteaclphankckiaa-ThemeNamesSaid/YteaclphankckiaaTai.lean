/- Layer 35: the law of names: what Name, Parse and the reference's Names and Parse say of every number and every text. -/
import Derived.Test.YteaclphankckiaaTah
namespace Go.Proofs.Yteaclphankckiaa
open Go Go.RowKit
set_option linter.unusedSimpArgs false
set_option linter.unusedVariables false
set_option maxRecDepth 100000 in
set_option maxHeartbeats 4000000 in
theorem names_lo_no (th : Int) (s : ByteArray) (w : World) (hl : (s.size : Int) ≤ 50) (h1 : th < 1) (hs0 : nmI s = -1) :
    Calls Try.prog 5 #[.int .i64 th, .string s] w fun e w' => e = .returned (.bool true) ∧ Below w.heap.size w w' := by
  have hs := Lib.hid hs0
  clear hs0
  go_enter Try.func5, Try.ntmps5
  go_wp2_with fail
  go_at_call 17
  refine (pname_no th w (Or.inl h1)).mono ?_
  rintro e w1 ⟨rfl, rfl⟩
  have hb1 : Hid (Below w.heap.size w w) := Lib.hid (Below.refl _ _)
  go_wp2_with fail
  go_at_call 18
  refine (pparse_no s w hs.out).mono ?_
  rintro e w2 ⟨rfl, hb2⟩
  replace hb2 := Lib.hid (hb1.out.trans (hb2.mono hb1.out.size))
  clear hb1
  go_wp2_with fail
  go_at_call 20
  refine (rparseT s w2).mono ?_
  rintro e w3 ⟨rfl, hb3⟩
  rw [hs.out]
  replace hb3 := Lib.hid (hb2.out.trans (hb3.mono hb2.out.size))
  clear hb2
  go_wp2_with fail
  go_at_call 8
  refine (known_35 w3).mono ?_
  rintro e w4 ⟨rfl, hb4⟩
  replace hb4 := Lib.hid (hb3.out.trans (hb4.mono hb3.out.size))
  clear hb3
  go_wp2_with fail
  go_ret
  exact ⟨rfl, hb4.out⟩
set_option maxRecDepth 100000 in
set_option maxHeartbeats 4000000 in
theorem names_hi_no (th : Int) (s : ByteArray) (w : World) (hl : (s.size : Int) ≤ 50) (h1 : 1 ≤ th) (h2 : 6 < th) (hs0 : nmI s = -1) :
    Calls Try.prog 5 #[.int .i64 th, .string s] w fun e w' => e = .returned (.bool true) ∧ Below w.heap.size w w' := by
  have hs := Lib.hid hs0
  clear hs0
  go_enter Try.func5, Try.ntmps5
  go_wp2_with fail
  go_at_call 17
  refine (pname_no th w (Or.inr ⟨h1, h2⟩)).mono ?_
  rintro e w1 ⟨rfl, rfl⟩
  have hb1 : Hid (Below w.heap.size w w) := Lib.hid (Below.refl _ _)
  go_wp2_with fail
  go_at_call 18
  refine (pparse_no s w hs.out).mono ?_
  rintro e w2 ⟨rfl, hb2⟩
  replace hb2 := Lib.hid (hb1.out.trans (hb2.mono hb1.out.size))
  clear hb1
  go_wp2_with fail
  go_at_call 20
  refine (rparseT s w2).mono ?_
  rintro e w3 ⟨rfl, hb3⟩
  rw [hs.out]
  replace hb3 := Lib.hid (hb2.out.trans (hb3.mono hb2.out.size))
  clear hb2
  go_wp2_with fail
  go_at_call 8
  refine (known_35 w3).mono ?_
  rintro e w4 ⟨rfl, hb4⟩
  replace hb4 := Lib.hid (hb3.out.trans (hb4.mono hb3.out.size))
  clear hb3
  go_wp2_with fail
  go_ret
  exact ⟨rfl, hb4.out⟩
set_option maxRecDepth 100000 in
set_option maxHeartbeats 4000000 in
theorem names_at_no (k : Nat) (hk0 : k < 6) (s : ByteArray) (w : World) (hl : (s.size : Int) ≤ 50) (hs0 : nmI s = -1) :
    Calls Try.prog 5 #[.int .i64 ((k : Int) + 1), .string s] w fun e w' => e = .returned (.bool true) ∧ Below w.heap.size w w' := by
  have hs := Lib.hid hs0
  clear hs0
  have hk := Lib.hid hk0
  have hw1 : IntKind.i64.wrap ((k : Int) + 1 - 1) = (k : Int) := by rw [Int.add_sub_cancel]; exact IntWalk.i64_in _ (by omega)
  have hk1 : (k : Int) < 6 := by omega
  have hk2 : (1 : Int) ≤ (k : Int) + 1 := by omega
  have hk3 : (k : Int) + 1 ≤ 6 := by omega
  have hk4 : ((6 : Int) < (k : Int) + 1) = False := by rw [eq_iff_iff, iff_false]; omega
  have hk5 : ((k : Int) + 1 < 1) = False := by rw [eq_iff_iff, iff_false]; omega
  have hk6 : (0 : Int) ≤ (k : Int) := Int.natCast_nonneg _
  clear hk0
  go_enter Try.func5, Try.ntmps5
  go_wp2_with fail
  go_at_call 17
  refine (pname_yes k w hk.out).mono ?_
  rintro e wa ⟨rfl, hba⟩
  replace hba := Lib.hid hba
  go_wp2_with fail
  go_at_call 18
  refine (pparse_yes (nmAt k) k wa hk.out (nmI_at k hk.out)).mono ?_
  rintro e wb ⟨rfl, hbb⟩
  replace hbb := Lib.hid (hba.out.trans (hbb.mono hba.out.size))
  clear hba
  go_wp2_with fail
  go_at_call 19
  refine (rnames wb).mono ?_
  rintro e wc ⟨rfl, rfl⟩
  have hN := Lib.hid (NmR.new wb 9)
  have hb1 : Hid (Below w.heap.size w (wb.alloc (.cells nmC 9))) := hbb.out.alloc hbb.out.size _
  generalize wb.alloc (.cells nmC 9) = w1 at *
  generalize wb.heap.size = B0 at *
  have hc := hN.out.cell k hk.out
  clear hbb hN
  go_wp2_with fail
  go_at_call 18
  refine (pparse_no s w1 hs.out).mono ?_
  rintro e w2 ⟨rfl, hb2⟩
  replace hb2 := Lib.hid (hb1.out.trans (hb2.mono hb1.out.size))
  clear hb1
  go_wp2_with fail
  go_at_call 20
  refine (rparseT s w2).mono ?_
  rintro e w3 ⟨rfl, hb3⟩
  rw [hs.out]
  replace hb3 := Lib.hid (hb2.out.trans (hb3.mono hb2.out.size))
  clear hb2
  go_wp2_with fail
  go_at_call 8
  refine (known_35 w3).mono ?_
  rintro e w4 ⟨rfl, hb4⟩
  replace hb4 := Lib.hid (hb3.out.trans (hb4.mono hb3.out.size))
  clear hb3
  go_wp2_with fail
  go_ret
  exact ⟨rfl, hb4.out⟩
set_option maxRecDepth 100000 in
set_option maxHeartbeats 4000000 in
theorem names_lo_yes (th : Int) (s : ByteArray) (w : World) (hl : (s.size : Int) ≤ 50) (h1 : th < 1) (j : Nat) (hj0 : j < 6) (hs0 : nmI s = j) :
    Calls Try.prog 5 #[.int .i64 th, .string s] w fun e w' => e = .returned (.bool true) ∧ Below w.heap.size w w' := by
  have hs := Lib.hid hs0
  have hj := Lib.hid hj0
  clear hs0 hj0
  go_enter Try.func5, Try.ntmps5
  go_wp2_with fail
  go_at_call 17
  refine (pname_no th w (Or.inl h1)).mono ?_
  rintro e w1 ⟨rfl, rfl⟩
  have hb1 : Hid (Below w.heap.size w w) := Lib.hid (Below.refl _ _)
  go_wp2_with fail
  go_at_call 18
  refine (pparse_yes s j w hj.out hs.out).mono ?_
  rintro e w2 ⟨rfl, hb2⟩
  replace hb2 := Lib.hid (hb1.out.trans (hb2.mono hb1.out.size))
  clear hb1
  go_wp2_with fail
  go_at_call 20
  refine (rparseT s w2).mono ?_
  rintro e w3 ⟨rfl, hb3⟩
  rw [hs.out]
  replace hb3 := Lib.hid (hb2.out.trans (hb3.mono hb2.out.size))
  clear hb2
  have hj1 : ((j : Int) + 1 = 0) = False := by rw [eq_iff_iff, iff_false]; omega
  go_wp2_with fail
  go_at_call 20
  refine (rparseT s w3).mono ?_
  rintro e w4 ⟨rfl, hb4⟩
  rw [hs.out]
  replace hb4 := Lib.hid (hb3.out.trans (hb4.mono hb3.out.size))
  clear hb3
  go_wp2_with fail
  go_at_call 8
  refine (known_35 w4).mono ?_
  rintro e w5 ⟨rfl, hb5⟩
  replace hb5 := Lib.hid (hb4.out.trans (hb5.mono hb4.out.size))
  clear hb4
  go_wp2_with fail
  go_ret
  exact ⟨rfl, hb5.out⟩
set_option maxRecDepth 100000 in
set_option maxHeartbeats 4000000 in
theorem names_hi_yes (th : Int) (s : ByteArray) (w : World) (hl : (s.size : Int) ≤ 50) (h1 : 1 ≤ th) (h2 : 6 < th) (j : Nat) (hj0 : j < 6) (hs0 : nmI s = j) :
    Calls Try.prog 5 #[.int .i64 th, .string s] w fun e w' => e = .returned (.bool true) ∧ Below w.heap.size w w' := by
  have hs := Lib.hid hs0
  have hj := Lib.hid hj0
  clear hs0 hj0
  go_enter Try.func5, Try.ntmps5
  go_wp2_with fail
  go_at_call 17
  refine (pname_no th w (Or.inr ⟨h1, h2⟩)).mono ?_
  rintro e w1 ⟨rfl, rfl⟩
  have hb1 : Hid (Below w.heap.size w w) := Lib.hid (Below.refl _ _)
  go_wp2_with fail
  go_at_call 18
  refine (pparse_yes s j w hj.out hs.out).mono ?_
  rintro e w2 ⟨rfl, hb2⟩
  replace hb2 := Lib.hid (hb1.out.trans (hb2.mono hb1.out.size))
  clear hb1
  go_wp2_with fail
  go_at_call 20
  refine (rparseT s w2).mono ?_
  rintro e w3 ⟨rfl, hb3⟩
  rw [hs.out]
  replace hb3 := Lib.hid (hb2.out.trans (hb3.mono hb2.out.size))
  clear hb2
  have hj1 : ((j : Int) + 1 = 0) = False := by rw [eq_iff_iff, iff_false]; omega
  go_wp2_with fail
  go_at_call 20
  refine (rparseT s w3).mono ?_
  rintro e w4 ⟨rfl, hb4⟩
  rw [hs.out]
  replace hb4 := Lib.hid (hb3.out.trans (hb4.mono hb3.out.size))
  clear hb3
  go_wp2_with fail
  go_at_call 8
  refine (known_35 w4).mono ?_
  rintro e w5 ⟨rfl, hb5⟩
  replace hb5 := Lib.hid (hb4.out.trans (hb5.mono hb4.out.size))
  clear hb4
  go_wp2_with fail
  go_ret
  exact ⟨rfl, hb5.out⟩
set_option maxRecDepth 100000 in
set_option maxHeartbeats 4000000 in
theorem names_at_yes (k : Nat) (hk0 : k < 6) (s : ByteArray) (w : World) (hl : (s.size : Int) ≤ 50) (j : Nat) (hj0 : j < 6) (hs0 : nmI s = j) :
    Calls Try.prog 5 #[.int .i64 ((k : Int) + 1), .string s] w fun e w' => e = .returned (.bool true) ∧ Below w.heap.size w w' := by
  have hs := Lib.hid hs0
  have hj := Lib.hid hj0
  clear hs0 hj0
  have hk := Lib.hid hk0
  have hw1 : IntKind.i64.wrap ((k : Int) + 1 - 1) = (k : Int) := by rw [Int.add_sub_cancel]; exact IntWalk.i64_in _ (by omega)
  have hk1 : (k : Int) < 6 := by omega
  have hk2 : (1 : Int) ≤ (k : Int) + 1 := by omega
  have hk3 : (k : Int) + 1 ≤ 6 := by omega
  have hk4 : ((6 : Int) < (k : Int) + 1) = False := by rw [eq_iff_iff, iff_false]; omega
  have hk5 : ((k : Int) + 1 < 1) = False := by rw [eq_iff_iff, iff_false]; omega
  have hk6 : (0 : Int) ≤ (k : Int) := Int.natCast_nonneg _
  clear hk0
  go_enter Try.func5, Try.ntmps5
  go_wp2_with fail
  go_at_call 17
  refine (pname_yes k w hk.out).mono ?_
  rintro e wa ⟨rfl, hba⟩
  replace hba := Lib.hid hba
  go_wp2_with fail
  go_at_call 18
  refine (pparse_yes (nmAt k) k wa hk.out (nmI_at k hk.out)).mono ?_
  rintro e wb ⟨rfl, hbb⟩
  replace hbb := Lib.hid (hba.out.trans (hbb.mono hba.out.size))
  clear hba
  go_wp2_with fail
  go_at_call 19
  refine (rnames wb).mono ?_
  rintro e wc ⟨rfl, rfl⟩
  have hN := Lib.hid (NmR.new wb 9)
  have hb1 : Hid (Below w.heap.size w (wb.alloc (.cells nmC 9))) := hbb.out.alloc hbb.out.size _
  generalize wb.alloc (.cells nmC 9) = w1 at *
  generalize wb.heap.size = B0 at *
  have hc := hN.out.cell k hk.out
  clear hbb hN
  go_wp2_with fail
  go_at_call 18
  refine (pparse_yes s j w1 hj.out hs.out).mono ?_
  rintro e w2 ⟨rfl, hb2⟩
  replace hb2 := Lib.hid (hb1.out.trans (hb2.mono hb1.out.size))
  clear hb1
  go_wp2_with fail
  go_at_call 20
  refine (rparseT s w2).mono ?_
  rintro e w3 ⟨rfl, hb3⟩
  rw [hs.out]
  replace hb3 := Lib.hid (hb2.out.trans (hb3.mono hb2.out.size))
  clear hb2
  have hj1 : ((j : Int) + 1 = 0) = False := by rw [eq_iff_iff, iff_false]; omega
  go_wp2_with fail
  go_at_call 20
  refine (rparseT s w3).mono ?_
  rintro e w4 ⟨rfl, hb4⟩
  rw [hs.out]
  replace hb4 := Lib.hid (hb3.out.trans (hb4.mono hb3.out.size))
  clear hb3
  go_wp2_with fail
  go_at_call 8
  refine (known_35 w4).mono ?_
  rintro e w5 ⟨rfl, hb5⟩
  replace hb5 := Lib.hid (hb4.out.trans (hb5.mono hb4.out.size))
  clear hb4
  go_wp2_with fail
  go_ret
  exact ⟨rfl, hb5.out⟩
set_option maxRecDepth 100000 in
set_option maxHeartbeats 4000000 in
theorem names_far (th : Int) (s : ByteArray) (w : World) (hl : 50 < (s.size : Int)) :
    Calls Try.prog 5 #[.int .i64 th, .string s] w fun e w' => e = .returned (.bool true) ∧ Below w.heap.size w w' := by
  go_enter Try.func5, Try.ntmps5
  go_wp2_with fail
  go_at_call 8
  refine (known_35 w).mono ?_
  rintro e w1 ⟨rfl, hb1⟩
  replace hb1 := Lib.hid hb1
  go_wp2_with fail
  go_ret
  exact ⟨rfl, hb1.out⟩
theorem law_names (th : Int) (s : ByteArray) (w : World) : Calls Try.prog 5 #[.int .i64 th, .string s] w fun e w' => e = .returned (.bool true) ∧ Below w.heap.size w w' := by
  by_cases hl : 50 < (s.size : Int)
  · exact names_far th s w hl
  · have hl2 : (s.size : Int) ≤ 50 := by omega
    by_cases h1 : th < 1
    · rcases nmI_or s with ⟨j, hj, _, hs⟩ | hs
      · exact names_lo_yes th s w hl2 h1 j hj hs
      · exact names_lo_no th s w hl2 h1 hs
    · by_cases h2 : 6 < th
      · rcases nmI_or s with ⟨j, hj, _, hs⟩ | hs
        · exact names_hi_yes th s w hl2 (by omega) h2 j hj hs
        · exact names_hi_no th s w hl2 (by omega) h2 hs
      · obtain ⟨k, hk⟩ : ∃ k : Nat, th = (k : Int) + 1 := ⟨(th - 1).toNat, by omega⟩
        subst hk
        rcases nmI_or s with ⟨j, hj, _, hs⟩ | hs
        · exact names_at_yes k (by omega) s w hl2 j hj hs
        · exact names_at_no k (by omega) s w hl2 hs
end Go.Proofs.Yteaclphankckiaa
