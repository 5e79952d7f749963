/- The laws of layer 2, walked: each returns true and changes nothing that was there. -/
import Derived.Test.YtmlbaghbdhogpaaDoorPk
import Derived.Test.YtmlbaghbdhogpaaDoorPgr
namespace Go.Proofs.YtmlbaghbdhogpaaDoor
open Go.RowKit
set_option linter.unusedSimpArgs false
set_option linter.unusedVariables false

set_option maxRecDepth 100000 in
set_option maxHeartbeats 4000000 in
theorem law_valid (p : Int) (w : World) (hk : KindsAt w) : Calls Tryd.prog 3 #[.int .i8 p] w fun e w' => e = .returned (.bool true) ∧ Below w.heap.size w w' := by
  have hkH := Lib.hid hk
  clear hk
  by_cases h : -15 ≤ p ∧ p ≤ 15
  · obtain ⟨h1, h2⟩ := h
    go_enter Tryd.func3, Tryd.ntmps3
    go_wp2_with (first
    | (go_at_call 8; refine (pkind_yes _ _ h1 h2).mono ?_; rintro e w' ⟨rfl, rfl⟩)
    | (go_at_call 9; refine (pside_yes _ _ h1 h2).mono ?_; rintro e w' ⟨rfl, rfl⟩)
    | (go_at_call 10; refine (pvalue_yes _ _ hkH.out h1 h2).mono ?_; rintro e w' ⟨rfl, rfl⟩)
    | (go_at_call 11; refine (pvalid_yes _ _ h1 h2).mono ?_; rintro e w' ⟨rfl, rfl⟩)
    | (go_at_call 12; refine (rvalid_yes _ _ h1 h2).mono ?_; rintro e w' ⟨rfl, rfl⟩)
    | (go_at_call 13; refine (porth _ _).mono ?_; rintro e w' ⟨rfl, rfl⟩)
    | (go_at_call 14; refine (rorth _ _).mono ?_; rintro e w' ⟨rfl, rfl⟩)
    | (go_at_call 16; refine (rkind _ _ h1 h2).mono ?_; rintro e w' ⟨rfl, rfl⟩)
    | (go_at_call 17; refine (rside _ _).mono ?_; rintro e w' ⟨rfl, rfl⟩)
    | (go_at_call 18; refine (rvalue _ _ h1 h2).mono ?_; rintro e w' ⟨rfl, rfl⟩)
    | (go_at_call 15; refine (pknown _ hkH.out).mono ?_; rintro e w' ⟨rfl, rfl⟩))
    go_ret
    exact ⟨rfl, Below.refl _ _⟩
  · have hn : p < -15 ∨ 15 < p := by omega
    have hnH := Lib.hid hn
    clear hn h
    go_enter Tryd.func3, Tryd.ntmps3
    go_wp2_with (first
    | (go_at_call 8; refine (pkind_no _ _ hnH.out).mono ?_; rintro e w' ⟨rfl, rfl⟩)
    | (go_at_call 9; refine (pside_no _ _ hnH.out).mono ?_; rintro e w' ⟨rfl, rfl⟩)
    | (go_at_call 10; refine (pvalue_no _ _ hnH.out).mono ?_; rintro e w' ⟨rfl, rfl⟩)
    | (go_at_call 11; refine (pvalid_no _ _ hnH.out).mono ?_; rintro e w' ⟨rfl, rfl⟩)
    | (go_at_call 12; refine (rvalid_no _ _ hnH.out).mono ?_; rintro e w' ⟨rfl, rfl⟩)
    | (go_at_call 13; refine (porth _ _).mono ?_; rintro e w' ⟨rfl, rfl⟩)
    | (go_at_call 14; refine (rorth _ _).mono ?_; rintro e w' ⟨rfl, rfl⟩)
    | (go_at_call 15; refine (pknown _ hkH.out).mono ?_; rintro e w' ⟨rfl, rfl⟩))
    go_ret
    exact ⟨rfl, Below.refl _ _⟩

set_option maxRecDepth 100000 in
set_option maxHeartbeats 4000000 in
theorem law_makes (p : Int) (b : Bool) (w : World) (hk : KindsAt w) : Calls Tryd.prog 4 #[.int .i8 p, .bool b] w fun e w' => e = .returned (.bool true) ∧ Below w.heap.size w w' := by
  have hkH := Lib.hid hk
  have hpos := hk.pos
  clear hk
  by_cases h : 1 ≤ p ∧ p ≤ 15
  · obtain ⟨h1, h2⟩ := h
    cases b
    · have hn : (p.natAbs : Int) = p := by omega
      have hnH := Lib.hid hn
      clear hn
      go_enter Tryd.func4, Tryd.ntmps4
      go_wp2_with (first
    | (go_at_call 19; refine (pmake_yes _ _ _ h1 h2).mono ?_; rintro e w' ⟨rfl, rfl⟩)
    | (go_at_call 20; refine (pname_yes _ _ hkH.out h1 h2).mono ?_; rintro e w' ⟨rfl, rfl⟩)
    | (go_at_call 16; refine (rkindn _ _ _ (by omega) (by omega) hnH.out).mono ?_; rintro e w' ⟨rfl, rfl⟩)
    | (go_at_call 21; refine (rname _ _ h1 h2).mono ?_; rintro e w' ⟨rfl, hb⟩)
    | (go_at_call 15; refine (pknown _ (hkH.out.below hpos hb)).mono ?_; rintro e w' ⟨rfl, rfl⟩))
      go_ret
      exact ⟨rb (by simp; omega), hb⟩
    · have hn : ((-p).natAbs : Int) = p := by omega
      have hnH := Lib.hid hn
      clear hn
      go_enter Tryd.func4, Tryd.ntmps4
      go_wp2_with (first
    | (go_at_call 19; refine (pmake_yes _ _ _ h1 h2).mono ?_; rintro e w' ⟨rfl, rfl⟩)
    | (go_at_call 20; refine (pname_yes _ _ hkH.out h1 h2).mono ?_; rintro e w' ⟨rfl, rfl⟩)
    | (go_at_call 16; refine (rkindn _ _ _ (by omega) (by omega) hnH.out).mono ?_; rintro e w' ⟨rfl, rfl⟩)
    | (go_at_call 21; refine (rname _ _ h1 h2).mono ?_; rintro e w' ⟨rfl, hb⟩)
    | (go_at_call 15; refine (pknown _ (hkH.out.below hpos hb)).mono ?_; rintro e w' ⟨rfl, rfl⟩))
      go_ret
      exact ⟨rfl, hb⟩
  · have hn : p < 1 ∨ 15 < p := by omega
    have hnH := Lib.hid hn
    clear hn
    rcases (by omega : p < 1 ∨ (1 ≤ p ∧ 15 < p)) with h' | ⟨h', h''⟩
    · clear h
      go_enter Tryd.func4, Tryd.ntmps4
      go_wp2_with (first
    | (go_at_call 19; refine (pmake_no _ _ _ hnH.out).mono ?_; rintro e w' ⟨rfl, rfl⟩)
    | (go_at_call 20; refine (pname_no _ _ hnH.out).mono ?_; rintro e w' ⟨rfl, rfl⟩)
    | (go_at_call 15; refine (pknown _ hkH.out).mono ?_; rintro e w' ⟨rfl, rfl⟩))
      go_ret
      exact ⟨rfl, Below.refl _ _⟩
    · clear h
      go_enter Tryd.func4, Tryd.ntmps4
      go_wp2_with (first
    | (go_at_call 19; refine (pmake_no _ _ _ hnH.out).mono ?_; rintro e w' ⟨rfl, rfl⟩)
    | (go_at_call 20; refine (pname_no _ _ hnH.out).mono ?_; rintro e w' ⟨rfl, rfl⟩)
    | (go_at_call 15; refine (pknown _ hkH.out).mono ?_; rintro e w' ⟨rfl, rfl⟩))
      go_ret
      exact ⟨rfl, Below.refl _ _⟩

theorem pparse0 (c : Int) (w : World) (hk : KindsAt w) (h1 : 0 ≤ c) (h2 : c ≤ 255) (h0 : parV c = 0) : Calls Tryd.prog 24 #[.int .u8 c] w fun e w' => e = .returned (.tuple #[.int .i8 0, .int .i64 6]) ∧ w = w' := by
  have h := pparse c w hk h1 h2
  rw [h0, noE_zero] at h
  exact h
theorem pparse1 (c : Int) (w : World) (hk : KindsAt w) (h1 : 0 ≤ c) (h2 : c ≤ 255) (h0 : noE (parV c) = 0) : Calls Tryd.prog 24 #[.int .u8 c] w fun e w' => e = .returned (.tuple #[.int .i8 (parV c), .int .i64 0]) ∧ w = w' := by
  have h := pparse c w hk h1 h2
  rw [h0] at h
  exact h
theorem rparse0 (c : Int) (w : World) (h1 : 0 ≤ c) (h2 : c ≤ 255) (h0 : parV c = 0) : Calls Tryd.prog 25 #[.int .u8 c] w fun e w' => e = .returned (.int .i8 0) ∧ w = w' := by
  have h := rparse c w h1 h2
  rw [h0] at h
  exact h
theorem pfind0 (s : ByteArray) (w : World) (hk : KindsAt w) (h0 : finV s.toList = 0) : Calls Tryd.prog 26 #[.string s] w fun e w' => e = .returned (.tuple #[.int .i8 0, .int .i64 6]) ∧ w = w' := by
  have h := pfind s w hk
  rw [h0, noE_zero] at h
  exact h
theorem pfind1 (s : ByteArray) (w : World) (hk : KindsAt w) (h0 : noE (finV s.toList) = 0) : Calls Tryd.prog 26 #[.string s] w fun e w' => e = .returned (.tuple #[.int .i8 (finV s.toList), .int .i64 0]) ∧ w = w' := by
  have h := pfind s w hk
  rw [h0] at h
  exact h
theorem rfind0 (s : ByteArray) (w : World) (h0 : finV s.toList = 0) : Calls Tryd.prog 29 #[.string s] w fun e w' => e = .returned (.int .i8 0) ∧ Below w.heap.size w w' := by
  have h := rfind s w
  rw [h0] at h
  exact h

theorem noE_of {v : Int} (h : v ≠ 0) : noE v = 0 := if_neg h
set_option maxRecDepth 100000 in
set_option maxHeartbeats 4000000 in
theorem law_letters (p c : Int) (w : World) (hk : KindsAt w) (c1 : 0 ≤ c) (c2 : c ≤ 255) : Calls Tryd.prog 5 #[.int .i8 p, .int .u8 c] w fun e w' => e = .returned (.bool true) ∧ Below w.heap.size w w' := by
  have hkH := Lib.hid hk
  clear hk
  have hc : (parV c = 0 ∧ Hid (noE (parV c) = 6)) ∨ ((parV c == 0) = false ∧ (parV c != 0) = true ∧ noE (parV c) = 0) := by
    by_cases h : parV c = 0
    · left; exact ⟨h, by rw [h]; exact noE_zero⟩
    · right; exact ⟨by simpa using h, by simpa using h, noE_of h⟩
  rcases hc with ⟨q0, q1⟩ | ⟨q0, q1, q2⟩
  · have q0H := Lib.hid q0
    clear q0
    rcases (by omega : p = 0 ∨ (1 ≤ p ∧ p ≤ 15) ∨ (-15 ≤ p ∧ p < 0) ∨ (p < -15 ∨ 15 < p)) with rfl | ⟨h1, h2⟩ | ⟨h1, h2⟩ | h
    · go_enter Tryd.func5, Tryd.ntmps5
      go_wp2_with (first
          | (go_at_call 22; refine (pletter_zero _).mono ?_; rintro e w' ⟨rfl, rfl⟩)
          | (go_at_call 24; refine (pparse0 _ _ hkH.out c1 c2 q0H.out).mono ?_; rintro e w' ⟨rfl, rfl⟩)
          | (go_at_call 25; refine (rparse0 _ _ c1 c2 q0H.out).mono ?_; rintro e w' ⟨rfl, rfl⟩)
          | (go_at_call 15; refine (pknown _ hkH.out).mono ?_; rintro e w' ⟨rfl, rfl⟩))
      go_ret
      exact ⟨rfl, Below.refl _ _⟩
    · have hne : (p == 0) = false := by simp; omega
      go_enter Tryd.func5, Tryd.ntmps5
      go_wp2_with (first
          | (go_at_call 22; refine (pletter_pos _ _ hkH.out h1 h2).mono ?_; rintro e w' ⟨rfl, rfl⟩)
          | (go_at_call 12; refine (rvalid_yes _ _ (by omega) (by omega)).mono ?_; rintro e w' ⟨rfl, rfl⟩)
          | (go_at_call 23; refine (rletter_pos _ _ h1 h2).mono ?_; rintro e w' ⟨rfl, rfl⟩)
          | (go_at_call 24; refine (pparse0 _ _ hkH.out c1 c2 q0H.out).mono ?_; rintro e w' ⟨rfl, rfl⟩)
          | (go_at_call 25; refine (rparse0 _ _ c1 c2 q0H.out).mono ?_; rintro e w' ⟨rfl, rfl⟩)
          | (go_at_call 15; refine (pknown _ hkH.out).mono ?_; rintro e w' ⟨rfl, rfl⟩))
      go_ret
      exact ⟨rfl, Below.refl _ _⟩
    · have hne : (p == 0) = false := by simp; omega
      go_enter Tryd.func5, Tryd.ntmps5
      go_wp2_with (first
          | (go_at_call 22; refine (pletter_neg _ _ hkH.out h1 h2).mono ?_; rintro e w' ⟨rfl, rfl⟩)
          | (go_at_call 12; refine (rvalid_yes _ _ (by omega) (by omega)).mono ?_; rintro e w' ⟨rfl, rfl⟩)
          | (go_at_call 23; refine (rletter_neg _ _ h1 h2).mono ?_; rintro e w' ⟨rfl, rfl⟩)
          | (go_at_call 24; refine (pparse0 _ _ hkH.out c1 c2 q0H.out).mono ?_; rintro e w' ⟨rfl, rfl⟩)
          | (go_at_call 25; refine (rparse0 _ _ c1 c2 q0H.out).mono ?_; rintro e w' ⟨rfl, rfl⟩)
          | (go_at_call 15; refine (pknown _ hkH.out).mono ?_; rintro e w' ⟨rfl, rfl⟩))
      go_ret
      exact ⟨rfl, Below.refl _ _⟩
    · have hne : (p == 0) = false := by simp; omega
      have hH := Lib.hid h
      clear h
      go_enter Tryd.func5, Tryd.ntmps5
      go_wp2_with (first
          | (go_at_call 22; refine (pletter_no _ _ hH.out).mono ?_; rintro e w' ⟨rfl, rfl⟩)
          | (go_at_call 12; refine (rvalid_no _ _ hH.out).mono ?_; rintro e w' ⟨rfl, rfl⟩)
          | (go_at_call 24; refine (pparse0 _ _ hkH.out c1 c2 q0H.out).mono ?_; rintro e w' ⟨rfl, rfl⟩)
          | (go_at_call 25; refine (rparse0 _ _ c1 c2 q0H.out).mono ?_; rintro e w' ⟨rfl, rfl⟩)
          | (go_at_call 15; refine (pknown _ hkH.out).mono ?_; rintro e w' ⟨rfl, rfl⟩))
      go_ret
      exact ⟨rfl, Below.refl _ _⟩
  · have q0H := Lib.hid q0
    skip
    rcases (by omega : p = 0 ∨ (1 ≤ p ∧ p ≤ 15) ∨ (-15 ≤ p ∧ p < 0) ∨ (p < -15 ∨ 15 < p)) with rfl | ⟨h1, h2⟩ | ⟨h1, h2⟩ | h
    · go_enter Tryd.func5, Tryd.ntmps5
      go_wp2_with (first
          | (go_at_call 22; refine (pletter_zero _).mono ?_; rintro e w' ⟨rfl, rfl⟩)
          | (go_at_call 24; refine (pparse1 _ _ hkH.out c1 c2 q2).mono ?_; rintro e w' ⟨rfl, rfl⟩)
          | (go_at_call 25; refine (rparse _ _ c1 c2).mono ?_; rintro e w' ⟨rfl, rfl⟩)
          | (go_at_call 15; refine (pknown _ hkH.out).mono ?_; rintro e w' ⟨rfl, rfl⟩))
      go_ret
      exact ⟨rfl, Below.refl _ _⟩
    · have hne : (p == 0) = false := by simp; omega
      go_enter Tryd.func5, Tryd.ntmps5
      go_wp2_with (first
          | (go_at_call 22; refine (pletter_pos _ _ hkH.out h1 h2).mono ?_; rintro e w' ⟨rfl, rfl⟩)
          | (go_at_call 12; refine (rvalid_yes _ _ (by omega) (by omega)).mono ?_; rintro e w' ⟨rfl, rfl⟩)
          | (go_at_call 23; refine (rletter_pos _ _ h1 h2).mono ?_; rintro e w' ⟨rfl, rfl⟩)
          | (go_at_call 24; refine (pparse1 _ _ hkH.out c1 c2 q2).mono ?_; rintro e w' ⟨rfl, rfl⟩)
          | (go_at_call 25; refine (rparse _ _ c1 c2).mono ?_; rintro e w' ⟨rfl, rfl⟩)
          | (go_at_call 15; refine (pknown _ hkH.out).mono ?_; rintro e w' ⟨rfl, rfl⟩))
      go_ret
      exact ⟨rfl, Below.refl _ _⟩
    · have hne : (p == 0) = false := by simp; omega
      go_enter Tryd.func5, Tryd.ntmps5
      go_wp2_with (first
          | (go_at_call 22; refine (pletter_neg _ _ hkH.out h1 h2).mono ?_; rintro e w' ⟨rfl, rfl⟩)
          | (go_at_call 12; refine (rvalid_yes _ _ (by omega) (by omega)).mono ?_; rintro e w' ⟨rfl, rfl⟩)
          | (go_at_call 23; refine (rletter_neg _ _ h1 h2).mono ?_; rintro e w' ⟨rfl, rfl⟩)
          | (go_at_call 24; refine (pparse1 _ _ hkH.out c1 c2 q2).mono ?_; rintro e w' ⟨rfl, rfl⟩)
          | (go_at_call 25; refine (rparse _ _ c1 c2).mono ?_; rintro e w' ⟨rfl, rfl⟩)
          | (go_at_call 15; refine (pknown _ hkH.out).mono ?_; rintro e w' ⟨rfl, rfl⟩))
      go_ret
      exact ⟨rfl, Below.refl _ _⟩
    · have hne : (p == 0) = false := by simp; omega
      have hH := Lib.hid h
      clear h
      go_enter Tryd.func5, Tryd.ntmps5
      go_wp2_with (first
          | (go_at_call 22; refine (pletter_no _ _ hH.out).mono ?_; rintro e w' ⟨rfl, rfl⟩)
          | (go_at_call 12; refine (rvalid_no _ _ hH.out).mono ?_; rintro e w' ⟨rfl, rfl⟩)
          | (go_at_call 24; refine (pparse1 _ _ hkH.out c1 c2 q2).mono ?_; rintro e w' ⟨rfl, rfl⟩)
          | (go_at_call 25; refine (rparse _ _ c1 c2).mono ?_; rintro e w' ⟨rfl, rfl⟩)
          | (go_at_call 15; refine (pknown _ hkH.out).mono ?_; rintro e w' ⟨rfl, rfl⟩))
      go_ret
      exact ⟨rfl, Below.refl _ _⟩

set_option maxRecDepth 100000 in
set_option maxHeartbeats 4000000 in
theorem law_names (s : ByteArray) (w : World) (hk : KindsAt w) (hs : s.size ≤ maxLen) : Calls Tryd.prog 6 #[.string s] w fun e w' => e = .returned (.bool true) ∧ Below w.heap.size w w' := by
  have hkH := Lib.hid hk
  have hpos := hk.pos
  have hsH := Lib.hid hs
  unfold maxLen at hs
  clear hk
  by_cases hl : 100 < s.size
  · go_enter Tryd.func6, Tryd.ntmps6
    go_wp2_with (first
    | (go_at_call 15; refine (pknown _ hkH.out).mono ?_; rintro e w' ⟨rfl, rfl⟩))
    go_ret
    exact ⟨rfl, Below.refl _ _⟩
  · have hc : Hid (finV s.toList = 0) ∨ ((finV s.toList == 0) = false ∧ (finV s.toList != 0) = true ∧ Hid (noE (finV s.toList) = 0)) := by
      by_cases h : finV s.toList = 0
      · left; exact h
      · right; exact ⟨by simpa using h, by simpa using h, noE_of h⟩
    rcases hc with q0 | ⟨q0, q1, q2⟩
    · go_enter Tryd.func6, Tryd.ntmps6
      go_wp2_with (first
    | (go_at_call 26; refine (pfind0 _ _ hkH.out q0.out).mono ?_; rintro e w' ⟨rfl, rfl⟩)
    | (go_at_call 27; refine (pvname _ _ hsH.out).mono ?_; rintro e w' ⟨rfl, rfl⟩)
    | (go_at_call 28; refine (rgiven _ _ hsH.out).mono ?_; rintro e w' ⟨rfl, rfl⟩)
    | (go_at_call 29; refine (rfind0 _ _ q0.out).mono ?_; rintro e w' ⟨rfl, hb⟩)
    | (go_at_call 15; refine (pknown _ (hkH.out.below hpos hb)).mono ?_; rintro e w' ⟨rfl, rfl⟩))
      go_ret
      exact ⟨rfl, hb⟩
    · go_enter Tryd.func6, Tryd.ntmps6
      go_wp2_with (first
    | (go_at_call 26; refine (pfind1 _ _ hkH.out q2.out).mono ?_; rintro e w' ⟨rfl, rfl⟩)
    | (go_at_call 27; refine (pvname _ _ hsH.out).mono ?_; rintro e w' ⟨rfl, rfl⟩)
    | (go_at_call 28; refine (rgiven _ _ hsH.out).mono ?_; rintro e w' ⟨rfl, rfl⟩)
    | (go_at_call 29; refine (rfind _ _).mono ?_; rintro e w' ⟨rfl, hb⟩)
    | (go_at_call 15; refine (pknown _ (hkH.out.below hpos hb)).mono ?_; rintro e w' ⟨rfl, rfl⟩))
      go_ret
      exact ⟨rfl, hb⟩

end Go.Proofs.YtmlbaghbdhogpaaDoor
