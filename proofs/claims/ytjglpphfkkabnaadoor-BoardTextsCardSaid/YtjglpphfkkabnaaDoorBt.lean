/- Layer 3: the law BoardTexts. Printed by gen_bt.py. -/
import Derived.Test.YtjglpphfkkabnaaDoorBs
import Derived.Test.YtjglpphfkkabnaaDoorBn
namespace Go.Proofs.YtjglpphfkkabnaaDoor
open Go.RowKit
set_option linter.unusedSimpArgs false
set_option linter.unusedVariables false

set_option maxRecDepth 100000 in
set_option maxHeartbeats 2000000 in
theorem texts_far (f r : Int) (A : Option Addr) (c : Nat) (l : List Int) (w : World) (hA : PcsAt w w.heap.size A l) (hE : EnvAt w) (hl : l.length ≤ maxLen) (h : 70 < l.length) : Calls Tryd.prog 5 #[bV f r A l.length c] w fun e w' => e = .returned (.bool true) ∧ Below w.heap.size w w' := by
  have h7 := Lib.hid (decide_eq_false (show ¬ l.length ≤ 70 by omega))
  have hEW : Hid (∀ W, Below w.heap.size w W → EnvAt W) := fun W hb => hE.next hb
  have hD := Lib.hid (BD.first (f := f) (r := r) (c := c) hA 26)
  have hb : Hid (Below w.heap.size w (w.alloc (.cells #[.int .i64 f, .int .i64 r, .slice A l.length c] 26))) := (Below.refl _ _).alloc (Nat.le_refl _) _
  clear hA hE
  go_enter Tryd.func5, Tryd.ntmps5
  go_upto_region 1 with fail
  generalize hB : w.heap.size = B at hD
  generalize w.alloc (.cells #[.int .i64 f, .int .i64 r, .slice A l.length c] 26) = w1 at *
  have D0 := hD.out.t.c0; have D1 := hD.out.t.c1; have D2 := hD.out.t.c2
  go_wp2_with (first | (go_at_call 9; refine (csmall _ _ _ _ _ _ hl).mono ?_; rintro e w' ⟨rfl, hbw⟩; rw [h7.out]; replace hb := Lib.hid (below_all hb.out hbw); replace hD := Lib.hid (hD.out.next hbw); replace D0 := hD.out.t.c0; replace D1 := hD.out.t.c1; replace D2 := hD.out.t.c2; clear hbw) | (go_at_call 10; refine (known_3 _ (hEW.out _ hb.out)).mono ?_; rintro e w' ⟨rfl, hbw⟩; replace hb := Lib.hid (below_all hb.out hbw); clear hbw))
  go_ret
  exact ⟨rfl, hb.out⟩
set_option maxRecDepth 100000 in
set_option maxHeartbeats 2000000 in
theorem texts_no (f r : Int) (A : Option Addr) (c : Nat) (l : List Int) (w : World) (hA : PcsAt w w.heap.size A l) (hE : EnvAt w) (hl7 : l.length ≤ 70) (hv : bdB f r l = false) : Calls Tryd.prog 5 #[bV f r A l.length c] w fun e w' => e = .returned (.bool true) ∧ Below w.heap.size w w' := by
  have hl : l.length ≤ maxLen := by unfold maxLen; omega
  have h7 := Lib.hid (decide_eq_true hl7)
  replace hv := Lib.hid hv
  have hEW : Hid (∀ W, Below w.heap.size w W → EnvAt W) := fun W hb => hE.next hb
  have hD := Lib.hid (BD.first (f := f) (r := r) (c := c) hA 26)
  have hb : Hid (Below w.heap.size w (w.alloc (.cells #[.int .i64 f, .int .i64 r, .slice A l.length c] 26))) := (Below.refl _ _).alloc (Nat.le_refl _) _
  clear hA hE
  go_enter Tryd.func5, Tryd.ntmps5
  go_upto_region 1 with fail
  generalize hB : w.heap.size = B at hD
  generalize w.alloc (.cells #[.int .i64 f, .int .i64 r, .slice A l.length c] 26) = w1 at *
  have D0 := hD.out.t.c0; have D1 := hD.out.t.c1; have D2 := hD.out.t.c2
  go_wp2_with (first | (go_at_call 9; refine (csmall _ _ _ _ _ _ hl).mono ?_; rintro e w' ⟨rfl, hbw⟩; rw [h7.out]; replace hb := Lib.hid (below_all hb.out hbw); replace hD := Lib.hid (hD.out.next hbw); replace D0 := hD.out.t.c0; replace D1 := hD.out.t.c1; replace D2 := hD.out.t.c2; clear hbw) | (go_at_call 28; refine (ptext_no _ _ _ _ _ _ hD.out.p (by omega) hv.out).mono ?_; rintro e w' ⟨rfl, hbw⟩; replace hb := Lib.hid (below_all hb.out hbw); replace hD := Lib.hid (hD.out.next hbw); replace D0 := hD.out.t.c0; replace D1 := hD.out.t.c1; replace D2 := hD.out.t.c2; clear hbw) | (go_at_call 17; refine (rbvalid _ _ _ _ _ _ hD.out.p (by omega)).mono ?_; rintro e w' ⟨rfl, hbw⟩; rw [hv.out]; replace hb := Lib.hid (below_all hb.out hbw); replace hD := Lib.hid (hD.out.next hbw); replace D0 := hD.out.t.c0; replace D1 := hD.out.t.c1; replace D2 := hD.out.t.c2; clear hbw) | (go_at_call 10; refine (known_3 _ (hEW.out _ hb.out)).mono ?_; rintro e w' ⟨rfl, hbw⟩; replace hb := Lib.hid (below_all hb.out hbw); clear hbw))
  go_ret
  exact ⟨rfl, hb.out⟩
theorem ptext_x (f r : Nat) (A : Option Addr) (c : Nat) (l : List Int) (w : World) (hA : PcsAt w w.heap.size A l) (hE : EnvAt w) (hc : l.length ≤ c) (hv : bdB (f : Int) (r : Int) l = true) {T : ByteArray} (hT : boardT f r l = T) : Calls Tryd.prog 28 #[bV (f : Int) (r : Int) A l.length c] w fun e w' => e = .returned (.tuple #[.string T, .int .i64 0]) ∧ Below w.heap.size w w' := by subst hT; exact ptext_yes f r A c l w hA hE hc hv
theorem rtext_x (f r : Nat) (A : Option Addr) (c : Nat) (l : List Int) (w : World) (hA : PcsAt w w.heap.size A l) (hv : bdB (f : Int) (r : Int) l = true) {T : ByteArray} (hT : boardT f r l = T) : Calls Tryd.prog 29 #[bV (f : Int) (r : Int) A l.length c] w fun e w' => e = .returned (.string T) ∧ Below w.heap.size w w' := by subst hT; exact rtext f r A c l w hA hv
set_option maxRecDepth 100000 in
set_option maxHeartbeats 2000000 in
theorem texts_yes (f r : Nat) (A : Option Addr) (c : Nat) (l : List Int) (w : World) (hA : PcsAt w w.heap.size A l) (hE : EnvAt w) (hl7 : l.length ≤ 70) (hc : l.length ≤ c) (hv : bdB (f : Int) (r : Int) l = true) : Calls Tryd.prog 5 #[bV (f : Int) (r : Int) A l.length c] w fun e w' => e = .returned (.bool true) ∧ Below w.heap.size w w' := by
  have hl : l.length ≤ maxLen := by unfold maxLen; omega
  have h7 := Lib.hid (decide_eq_true hl7)
  replace hv := Lib.hid hv
  obtain ⟨T, hT⟩ : ∃ T, boardT f r l = T := ⟨_, rfl⟩
  replace hT := Lib.hid hT
  have hEW : Hid (∀ W, Below w.heap.size w W → EnvAt W) := fun W hb => hE.next hb
  have hD := Lib.hid (BD.first (f := (f : Int)) (r := (r : Int)) (c := c) hA 26)
  have hb : Hid (Below w.heap.size w (w.alloc (.cells #[.int .i64 (f : Int), .int .i64 (r : Int), .slice A l.length c] 26))) := (Below.refl _ _).alloc (Nat.le_refl _) _
  clear hA hE
  go_enter Tryd.func5, Tryd.ntmps5
  go_upto_region 1 with fail
  generalize hB : w.heap.size = B at hD
  generalize w.alloc (.cells #[.int .i64 (f : Int), .int .i64 (r : Int), .slice A l.length c] 26) = w1 at *
  have D0 := hD.out.t.c0; have D1 := hD.out.t.c1; have D2 := hD.out.t.c2
  go_wp2_with (first | (go_at_call 9; refine (csmall _ _ _ _ _ _ hl).mono ?_; rintro e w' ⟨rfl, hbw⟩; rw [h7.out]; replace hb := Lib.hid (below_all hb.out hbw); replace hD := Lib.hid (hD.out.next hbw); replace D0 := hD.out.t.c0; replace D1 := hD.out.t.c1; replace D2 := hD.out.t.c2; clear hbw) | (go_at_call 28; refine (ptext_x _ _ _ _ _ _ hD.out.p (hEW.out _ hb.out) hc hv.out hT.out).mono ?_; rintro e w' ⟨rfl, hbw⟩; replace hb := Lib.hid (below_all hb.out hbw); replace hD := Lib.hid (hD.out.next hbw); replace D0 := hD.out.t.c0; replace D1 := hD.out.t.c1; replace D2 := hD.out.t.c2; clear hbw) | (go_at_call 17; refine (rbvalid _ _ _ _ _ _ hD.out.p (by omega)).mono ?_; rintro e w' ⟨rfl, hbw⟩; rw [hv.out]; replace hb := Lib.hid (below_all hb.out hbw); replace hD := Lib.hid (hD.out.next hbw); replace D0 := hD.out.t.c0; replace D1 := hD.out.t.c1; replace D2 := hD.out.t.c2; clear hbw) | (go_at_call 29; refine (rtext_x _ _ _ _ _ _ hD.out.p hv.out hT.out).mono ?_; rintro e w' ⟨rfl, hbw⟩; replace hb := Lib.hid (below_all hb.out hbw); replace hD := Lib.hid (hD.out.next hbw); replace D0 := hD.out.t.c0; replace D1 := hD.out.t.c1; replace D2 := hD.out.t.c2; clear hbw) | (go_at_call 10; refine (known_3 _ (hEW.out _ hb.out)).mono ?_; rintro e w' ⟨rfl, hbw⟩; replace hb := Lib.hid (below_all hb.out hbw); clear hbw))
  go_ret
  exact ⟨rfl, hb.out⟩
theorem law_texts (f r : Int) (A : Option Addr) (c : Nat) (l : List Int) (w : World) (hA : PcsAt w w.heap.size A l) (hE : EnvAt w) (hl : l.length ≤ maxLen) (hc : l.length ≤ c) : Calls Tryd.prog 5 #[bV f r A l.length c] w fun e w' => e = .returned (.bool true) ∧ Below w.heap.size w w' := by
  rcases Nat.lt_or_ge 70 l.length with h7 | h7
  · exact texts_far f r A c l w hA hE hl h7
  rcases h1 : bdB f r l with _ | _
  · exact texts_no f r A c l w hA hE h7 h1
  obtain ⟨z0, z1, z2, z3⟩ := szB_out (bdB_out h1).1
  obtain ⟨fn, rfl⟩ : ∃ n : Nat, f = n := ⟨f.toNat, by omega⟩
  obtain ⟨rn, rfl⟩ : ∃ n : Nat, r = n := ⟨r.toNat, by omega⟩
  exact texts_yes fn rn A c l w hA hE h7 hc h1
end Go.Proofs.YtjglpphfkkabnaaDoor
