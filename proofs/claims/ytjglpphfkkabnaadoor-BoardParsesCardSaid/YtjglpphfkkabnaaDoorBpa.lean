/- Layer 3: the law BoardParses. Printed by gen_bA.py. -/
import Derived.Test.YtjglpphfkkabnaaDoorBz
import Derived.Test.YtjglpphfkkabnaaDoorBn
import Derived.Test.YtjglpphfkkabnaaDoorBw
namespace Go.Proofs.YtjglpphfkkabnaaDoor
open Go.RowKit
set_option linter.unusedSimpArgs false
set_option linter.unusedVariables false

set_option maxRecDepth 100000 in
set_option maxHeartbeats 2000000 in
theorem parses_far (s : ByteArray) (w : World) (hE : EnvAt w) (h : 200 < s.size) (hm : s.size ≤ maxLen) : Calls Tryd.prog 6 #[.string s] w fun e w' => e = .returned (.bool true) ∧ Below w.heap.size w w' := by
  have hi : (200 : Int) < (s.size : Int) := by omega
  unfold maxLen at hm
  have hEW : Hid (∀ W, Below w.heap.size w W → EnvAt W) := fun W hb => hE.next hb
  have hb : Hid (Below w.heap.size w w) := Below.refl _ _
  clear hE
  go_enter Tryd.func6, Tryd.ntmps6
  go_wp2_with (go_at_call 10; refine (known_3 _ (hEW.out _ hb.out)).mono ?_; rintro e w' ⟨rfl, hbw⟩; replace hb := Lib.hid (below_all hb.out hbw); clear hbw)
  go_ret
  exact ⟨rfl, hb.out⟩
theorem rparse_y {s : ByteArray} {f r : Nat} {P : List Int} (w : World) (hs : s.size ≤ 1000) (h : parB s = some (f, r, P)) : Calls Tryd.prog 31 #[.string s] w fun e w' => ∃ (A : Option Addr) (c : Nat), e = .returned (.tuple #[bV (f : Int) (r : Int) A P.length c, .bool true]) ∧ O1 qEnc 1 w.heap.size 28 w w' A c P := by
  refine (rparseb s w hs).mono fun e w' h2 => ?_
  unfold RP at h2
  rw [refP_parB, h] at h2
  exact h2
theorem rparse_n {s : ByteArray} (w : World) (hs : s.size ≤ 1000) (h : parB s = none) : Calls Tryd.prog 31 #[.string s] w fun e w' => e = .returned (.tuple #[bV 0 0 none 0 0, .bool false]) ∧ Below w.heap.size w w' := by
  refine (rparseb s w hs).mono fun e w' h2 => ?_
  unfold RP at h2
  rw [refP_parB, h] at h2
  exact h2
theorem rparse_z {s : ByteArray} (w : World) (hs : s.size ≤ 1000) (h : parB s = none) {Z : List Int} (hz : [] = Z) : Calls Tryd.prog 31 #[.string s] w fun e w' => ∃ (A : Option Addr) (c : Nat), e = .returned (.tuple #[bV 0 0 A Z.length c, .bool false]) ∧ O1 qEnc 1 w.heap.size 28 w w' A c Z := by
  subst hz
  exact (rparse_n w hs h).mono fun e w' ⟨h1, h2⟩ => ⟨none, 0, h1, O1.nil h2 h2.size⟩
set_option maxRecDepth 100000 in
set_option maxHeartbeats 2000000 in
theorem parses_yes (s : ByteArray) (w : World) (hE : EnvAt w) (hs : s.size ≤ 200) (f r : Nat) (P : List Int) (h : parB s = some (f, r, P)) : Calls Tryd.prog 6 #[.string s] w fun e w' => e = .returned (.bool true) ∧ Below w.heap.size w w' := by
  have hz : ((200 : Int) < (s.size : Int)) = False := by rw [eq_iff_iff, iff_false]; omega
  have hPl := (bd_len (parB_out h).1).2
  replace h := Lib.hid h
  have hEW : Hid (∀ W, Below w.heap.size w W → EnvAt W) := fun W hb => hE.next hb
  have hb : Hid (Below w.heap.size w w) := Below.refl _ _
  clear hE
  go_enter Tryd.func6, Tryd.ntmps6
  go_wp2_with fail
  go_at_call 30
  refine (kpy _ (hEW.out _ hb.out) (by omega) h.out).mono ?_
  rintro e wC ⟨AC, cC, rfl, hO⟩
  replace hO := Lib.hid hO
  go_upto_region 4 with fail
  have hbo := (hO.out.alloc (.cells #[.int .i64 (f : Int), .int .i64 (r : Int), .slice AC P.length cC] 26)).below
  replace hb := Lib.hid (below_all hb.out hbo)
  have hC := Lib.hid (BD.made hO.out (f : Int) (r : Int) 26)
  clear hbo hO
  generalize hBC : wC.heap.size = BC at *
  generalize wC.alloc (.cells #[.int .i64 (f : Int), .int .i64 (r : Int), .slice AC P.length cC] 26) = vC at *
  clear hBC
  have C0 := hC.out.t.c0; have C1 := hC.out.t.c1; have C2 := hC.out.t.c2
  go_wp2_with fail
  go_at_call 31
  refine (rparse_y _ (by omega) h.out).mono ?_
  rintro e wR ⟨AR, cR, rfl, hO⟩
  replace hO := Lib.hid hO
  go_upto_region 5 with fail
  have hbo := (hO.out.alloc (.cells #[.int .i64 (f : Int), .int .i64 (r : Int), .slice AR P.length cR] 26)).below
  replace hb := Lib.hid (below_all hb.out hbo); replace hC := Lib.hid (hC.out.next hbo); replace C0 := hC.out.t.c0; replace C1 := hC.out.t.c1; replace C2 := hC.out.t.c2
  have hR := Lib.hid (BD.made hO.out (f : Int) (r : Int) 26)
  clear hbo hO
  generalize hBR : wR.heap.size = BR at *
  generalize wR.alloc (.cells #[.int .i64 (f : Int), .int .i64 (r : Int), .slice AR P.length cR] 26) = vR at *
  clear hBR
  have R0 := hR.out.t.c0; have R1 := hR.out.t.c1; have R2 := hR.out.t.c2
  go_wp2_with (first | (go_at_call 14; refine (rsameb _ _ _ _ _ _ _ _ _ _ _ hC.out.p hR.out.p (by omega) (by omega)).mono ?_; rintro e w' ⟨rfl, hbw⟩; rw [bEq_rfl]; replace hb := Lib.hid (below_all hb.out hbw); clear hbw) | (go_at_call 10; refine (known_3 _ (hEW.out _ hb.out)).mono ?_; rintro e w' ⟨rfl, hbw⟩; replace hb := Lib.hid (below_all hb.out hbw); clear hbw))
  go_ret
  exact ⟨rfl, hb.out⟩
set_option maxRecDepth 100000 in
set_option maxHeartbeats 2000000 in
theorem parses_no (s : ByteArray) (w : World) (hE : EnvAt w) (hs : s.size ≤ 200) (h : parB s = none) : Calls Tryd.prog 6 #[.string s] w fun e w' => e = .returned (.bool true) ∧ Below w.heap.size w w' := by
  have hz : ((200 : Int) < (s.size : Int)) = False := by rw [eq_iff_iff, iff_false]; omega
  obtain ⟨Z, hzn⟩ : ∃ Z : List Int, [] = Z := ⟨_, rfl⟩
  have hZ1 : Z.length ≤ 100 := by subst hzn; simp
  replace hzn := Lib.hid hzn
  replace h := Lib.hid h
  have hEW : Hid (∀ W, Below w.heap.size w W → EnvAt W) := fun W hb => hE.next hb
  have hb : Hid (Below w.heap.size w w) := Below.refl _ _
  clear hE
  go_enter Tryd.func6, Tryd.ntmps6
  go_wp2_with fail
  go_at_call 30
  refine (kpn_z _ (hEW.out _ hb.out) (by omega) h.out hzn.out).mono ?_
  rintro e wC ⟨AC, cC, rfl, hO⟩
  replace hO := Lib.hid hO
  go_upto_region 4 with fail
  have hbo := (hO.out.alloc (.cells #[.int .i64 0, .int .i64 0, .slice AC Z.length cC] 26)).below
  replace hb := Lib.hid (below_all hb.out hbo)
  have hC := Lib.hid (BD.made hO.out 0 0 26)
  clear hbo hO
  generalize hBC : wC.heap.size = BC at *
  generalize wC.alloc (.cells #[.int .i64 0, .int .i64 0, .slice AC Z.length cC] 26) = vC at *
  clear hBC
  have C0 := hC.out.t.c0; have C1 := hC.out.t.c1; have C2 := hC.out.t.c2
  go_wp2_with fail
  go_at_call 31
  refine (rparse_z _ (by omega) h.out hzn.out).mono ?_
  rintro e wR ⟨AR, cR, rfl, hO⟩
  replace hO := Lib.hid hO
  go_upto_region 5 with fail
  have hbo := (hO.out.alloc (.cells #[.int .i64 0, .int .i64 0, .slice AR Z.length cR] 26)).below
  replace hb := Lib.hid (below_all hb.out hbo); replace hC := Lib.hid (hC.out.next hbo); replace C0 := hC.out.t.c0; replace C1 := hC.out.t.c1; replace C2 := hC.out.t.c2
  have hR := Lib.hid (BD.made hO.out 0 0 26)
  clear hbo hO
  generalize hBR : wR.heap.size = BR at *
  generalize wR.alloc (.cells #[.int .i64 0, .int .i64 0, .slice AR Z.length cR] 26) = vR at *
  clear hBR
  have R0 := hR.out.t.c0; have R1 := hR.out.t.c1; have R2 := hR.out.t.c2
  go_wp2_with (first | (go_at_call 14; refine (rsameb _ _ _ _ _ 0 0 none 0 [] _ hC.out.p (pcs_nil _ _ _) (by omega) (by simp)).mono ?_; rintro e w' ⟨rfl, hbw⟩; rw [bEq_z hzn.out]; replace hb := Lib.hid (below_all hb.out hbw); replace hC := Lib.hid (hC.out.next hbw); replace C0 := hC.out.t.c0; replace C1 := hC.out.t.c1; replace C2 := hC.out.t.c2; clear hbw) | (go_at_call 10; refine (known_3 _ (hEW.out _ hb.out)).mono ?_; rintro e w' ⟨rfl, hbw⟩; replace hb := Lib.hid (below_all hb.out hbw); clear hbw))
  go_ret
  exact ⟨rfl, hb.out⟩
theorem law_parses (s : ByteArray) (w : World) (hE : EnvAt w) (hm : s.size ≤ maxLen) : Calls Tryd.prog 6 #[.string s] w fun e w' => e = .returned (.bool true) ∧ Below w.heap.size w w' := by
  rcases Nat.lt_or_ge 200 s.size with h5 | h5
  · exact parses_far s w hE h5 hm
  rcases h6 : parB s with _ | ⟨f, r, P⟩
  · exact parses_no s w hE h5 h6
  · exact parses_yes s w hE h5 f r P h6
end Go.Proofs.YtjglpphfkkabnaaDoor
