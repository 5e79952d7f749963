/- Layer 3: the law BoardHolds. Printed by gen_bw.py. -/
import Derived.Test.YtjglpphfkkabnaaDoorBv
import Derived.Test.YtjglpphfkkabnaaDoorBu
import Derived.Test.YtjglpphfkkabnaaDoorBq
import Derived.Test.YtjglpphfkkabnaaDoorBn
import Derived.Laws.BitsAllLaws
import Derived.Laws.Bits64b
namespace Go.Proofs.YtjglpphfkkabnaaDoor
open Go.RowKit
set_option linter.unusedSimpArgs false
set_option linter.unusedVariables false

set_option maxRecDepth 100000 in
set_option maxHeartbeats 4000000 in
theorem holds_far (f r : Int) (A : Option Addr) (c : Nat) (l : List Int) (k : Int) (p q : Int) (s : ByteArray) (w : World) (hA : PcsAt w w.heap.size A l) (hE : EnvAt w) (hl : l.length ≤ maxLen) (h : 70 < l.length) : Calls Tryd.prog 7 #[bV f r A l.length c, .int .i64 k, .int .i8 p, .int .i8 q, .string s] w fun e w' => e = .returned (.bool true) ∧ Below w.heap.size w w' := by
  have h7 := Lib.hid (decide_eq_false (show ¬ l.length ≤ 70 by omega))
  have hEW : Hid (∀ W, Below w.heap.size w W → EnvAt W) := fun W hb => hE.next hb
  have hD := Lib.hid (BD.first (f := f) (r := r) (c := c) hA 26)
  have hb : Hid (Below w.heap.size w (w.alloc (.cells #[.int .i64 f, .int .i64 r, .slice A l.length c] 26))) := (Below.refl _ _).alloc (Nat.le_refl _) _
  clear hA hE
  go_enter Tryd.func7, Tryd.ntmps7
  go_upto_region 1 with fail
  generalize hB : w.heap.size = B at hD
  generalize w.alloc (.cells #[.int .i64 f, .int .i64 r, .slice A l.length c] 26) = w1 at *
  have D0 := hD.out.t.c0; have D1 := hD.out.t.c1; have D2 := hD.out.t.c2
  go_wp2_with (first | (go_at_call 9; refine (csmall _ _ _ _ _ _ hl).mono ?_; rintro e w' ⟨rfl, hbw⟩; rw [h7.out]; replace hb := Lib.hid (below_all hb.out hbw); replace hD := Lib.hid (hD.out.next hbw); replace D0 := hD.out.t.c0; replace D1 := hD.out.t.c1; replace D2 := hD.out.t.c2; clear hbw) | (go_at_call 10; refine (known_3 _ (hEW.out _ hb.out)).mono ?_; rintro e w' ⟨rfl, hbw⟩; replace hb := Lib.hid (below_all hb.out hbw); clear hbw))
  go_ret
  exact ⟨rfl, hb.out⟩
set_option maxRecDepth 100000 in
set_option maxHeartbeats 4000000 in
theorem holds_v (f r : Int) (A : Option Addr) (c : Nat) (l : List Int) (k : Int) (p q : Int) (s : ByteArray) (w : World) (hA : PcsAt w w.heap.size A l) (hE : EnvAt w) (hl7 : l.length ≤ 70) (hv : bdB f r l = false) : Calls Tryd.prog 7 #[bV f r A l.length c, .int .i64 k, .int .i8 p, .int .i8 q, .string s] w fun e w' => e = .returned (.bool true) ∧ Below w.heap.size w w' := by
  have hl : l.length ≤ maxLen := by unfold maxLen; omega
  have h7 := Lib.hid (decide_eq_true hl7)
  replace hv := Lib.hid hv
  have hEW : Hid (∀ W, Below w.heap.size w W → EnvAt W) := fun W hb => hE.next hb
  have hD := Lib.hid (BD.first (f := f) (r := r) (c := c) hA 26)
  have hb : Hid (Below w.heap.size w (w.alloc (.cells #[.int .i64 f, .int .i64 r, .slice A l.length c] 26))) := (Below.refl _ _).alloc (Nat.le_refl _) _
  clear hA hE
  go_enter Tryd.func7, Tryd.ntmps7
  go_upto_region 1 with fail
  generalize hB : w.heap.size = B at hD
  generalize w.alloc (.cells #[.int .i64 f, .int .i64 r, .slice A l.length c] 26) = w1 at *
  have D0 := hD.out.t.c0; have D1 := hD.out.t.c1; have D2 := hD.out.t.c2
  go_wp2_with (first | (go_at_call 9; refine (csmall _ _ _ _ _ _ hl).mono ?_; rintro e w' ⟨rfl, hbw⟩; rw [h7.out]; replace hb := Lib.hid (below_all hb.out hbw); replace hD := Lib.hid (hD.out.next hbw); replace D0 := hD.out.t.c0; replace D1 := hD.out.t.c1; replace D2 := hD.out.t.c2; clear hbw) | (go_at_call 17; refine (rbvalid _ _ _ _ _ _ hD.out.p (by omega)).mono ?_; rintro e w' ⟨rfl, hbw⟩; rw [hv.out]; replace hb := Lib.hid (below_all hb.out hbw); replace hD := Lib.hid (hD.out.next hbw); replace D0 := hD.out.t.c0; replace D1 := hD.out.t.c1; replace D2 := hD.out.t.c2; clear hbw) | (go_at_call 10; refine (known_3 _ (hEW.out _ hb.out)).mono ?_; rintro e w' ⟨rfl, hbw⟩; replace hb := Lib.hid (below_all hb.out hbw); clear hbw))
  go_ret
  exact ⟨rfl, hb.out⟩
set_option maxRecDepth 100000 in
set_option maxHeartbeats 4000000 in
theorem holds_sq (f r : Int) (A : Option Addr) (c : Nat) (l : List Int) (k : Int) (p q : Int) (s : ByteArray) (w : World) (hA : PcsAt w w.heap.size A l) (hE : EnvAt w) (hl7 : l.length ≤ 70) (hv : bdB f r l = true) (hsq : sqB f r k = false) : Calls Tryd.prog 7 #[bV f r A l.length c, .int .i64 k, .int .i8 p, .int .i8 q, .string s] w fun e w' => e = .returned (.bool true) ∧ Below w.heap.size w w' := by
  have hl : l.length ≤ maxLen := by unfold maxLen; omega
  have h7 := Lib.hid (decide_eq_true hl7)
  replace hv := Lib.hid hv
  replace hsq := Lib.hid hsq
  have hEW : Hid (∀ W, Below w.heap.size w W → EnvAt W) := fun W hb => hE.next hb
  have hD := Lib.hid (BD.first (f := f) (r := r) (c := c) hA 26)
  have hb : Hid (Below w.heap.size w (w.alloc (.cells #[.int .i64 f, .int .i64 r, .slice A l.length c] 26))) := (Below.refl _ _).alloc (Nat.le_refl _) _
  clear hA hE
  go_enter Tryd.func7, Tryd.ntmps7
  go_upto_region 1 with fail
  generalize hB : w.heap.size = B at hD
  generalize w.alloc (.cells #[.int .i64 f, .int .i64 r, .slice A l.length c] 26) = w1 at *
  have D0 := hD.out.t.c0; have D1 := hD.out.t.c1; have D2 := hD.out.t.c2
  go_wp2_with (first | (go_at_call 9; refine (csmall _ _ _ _ _ _ hl).mono ?_; rintro e w' ⟨rfl, hbw⟩; rw [h7.out]; replace hb := Lib.hid (below_all hb.out hbw); replace hD := Lib.hid (hD.out.next hbw); replace D0 := hD.out.t.c0; replace D1 := hD.out.t.c1; replace D2 := hD.out.t.c2; clear hbw) | (go_at_call 17; refine (rbvalid _ _ _ _ _ _ hD.out.p (by omega)).mono ?_; rintro e w' ⟨rfl, hbw⟩; rw [hv.out]; replace hb := Lib.hid (below_all hb.out hbw); replace hD := Lib.hid (hD.out.next hbw); replace D0 := hD.out.t.c0; replace D1 := hD.out.t.c1; replace D2 := hD.out.t.c2; clear hbw) | (go_at_call 18; refine (rvalidsq _ _ _ _).mono ?_; rintro e w' ⟨rfl, hbw⟩; rw [hsq.out]; replace hb := Lib.hid (below_all hb.out hbw); replace hD := Lib.hid (hD.out.next hbw); replace D0 := hD.out.t.c0; replace D1 := hD.out.t.c1; replace D2 := hD.out.t.c2; clear hbw) | (go_at_call 10; refine (known_3 _ (hEW.out _ hb.out)).mono ?_; rintro e w' ⟨rfl, hbw⟩; replace hb := Lib.hid (below_all hb.out hbw); clear hbw))
  go_ret
  exact ⟨rfl, hb.out⟩
set_option maxRecDepth 100000 in
set_option maxHeartbeats 4000000 in
theorem holds_p (f r : Int) (A : Option Addr) (c : Nat) (l : List Int) (k : Int) (p q : Int) (s : ByteArray) (w : World) (hA : PcsAt w w.heap.size A l) (hE : EnvAt w) (hl7 : l.length ≤ 70) (hv : bdB f r l = true) (hsq : sqB f r k = true) (hp : okP p = false) : Calls Tryd.prog 7 #[bV f r A l.length c, .int .i64 k, .int .i8 p, .int .i8 q, .string s] w fun e w' => e = .returned (.bool true) ∧ Below w.heap.size w w' := by
  have hl : l.length ≤ maxLen := by unfold maxLen; omega
  have h7 := Lib.hid (decide_eq_true hl7)
  replace hv := Lib.hid hv
  replace hsq := Lib.hid hsq
  replace hp := Lib.hid hp
  have hEW : Hid (∀ W, Below w.heap.size w W → EnvAt W) := fun W hb => hE.next hb
  have hD := Lib.hid (BD.first (f := f) (r := r) (c := c) hA 26)
  have hb : Hid (Below w.heap.size w (w.alloc (.cells #[.int .i64 f, .int .i64 r, .slice A l.length c] 26))) := (Below.refl _ _).alloc (Nat.le_refl _) _
  clear hA hE
  go_enter Tryd.func7, Tryd.ntmps7
  go_upto_region 1 with fail
  generalize hB : w.heap.size = B at hD
  generalize w.alloc (.cells #[.int .i64 f, .int .i64 r, .slice A l.length c] 26) = w1 at *
  have D0 := hD.out.t.c0; have D1 := hD.out.t.c1; have D2 := hD.out.t.c2
  go_wp2_with (first | (go_at_call 9; refine (csmall _ _ _ _ _ _ hl).mono ?_; rintro e w' ⟨rfl, hbw⟩; rw [h7.out]; replace hb := Lib.hid (below_all hb.out hbw); replace hD := Lib.hid (hD.out.next hbw); replace D0 := hD.out.t.c0; replace D1 := hD.out.t.c1; replace D2 := hD.out.t.c2; clear hbw) | (go_at_call 17; refine (rbvalid _ _ _ _ _ _ hD.out.p (by omega)).mono ?_; rintro e w' ⟨rfl, hbw⟩; rw [hv.out]; replace hb := Lib.hid (below_all hb.out hbw); replace hD := Lib.hid (hD.out.next hbw); replace D0 := hD.out.t.c0; replace D1 := hD.out.t.c1; replace D2 := hD.out.t.c2; clear hbw) | (go_at_call 18; refine (rvalidsq _ _ _ _).mono ?_; rintro e w' ⟨rfl, hbw⟩; rw [hsq.out]; replace hb := Lib.hid (below_all hb.out hbw); replace hD := Lib.hid (hD.out.next hbw); replace D0 := hD.out.t.c0; replace D1 := hD.out.t.c1; replace D2 := hD.out.t.c2; clear hbw) | (go_at_call 19; refine (rvalidp _ _).mono ?_; rintro e w' ⟨rfl, rfl⟩; rw [hp.out]) | (go_at_call 10; refine (known_3 _ (hEW.out _ hb.out)).mono ?_; rintro e w' ⟨rfl, hbw⟩; replace hb := Lib.hid (below_all hb.out hbw); clear hbw))
  go_ret
  exact ⟨rfl, hb.out⟩
set_option maxRecDepth 100000 in
set_option maxHeartbeats 4000000 in
theorem holds_q (f r : Int) (A : Option Addr) (c : Nat) (l : List Int) (k : Int) (p q : Int) (s : ByteArray) (w : World) (hA : PcsAt w w.heap.size A l) (hE : EnvAt w) (hl7 : l.length ≤ 70) (hv : bdB f r l = true) (hsq : sqB f r k = true) (hp : okP p = true) (hq : okP q = false) : Calls Tryd.prog 7 #[bV f r A l.length c, .int .i64 k, .int .i8 p, .int .i8 q, .string s] w fun e w' => e = .returned (.bool true) ∧ Below w.heap.size w w' := by
  have hl : l.length ≤ maxLen := by unfold maxLen; omega
  have h7 := Lib.hid (decide_eq_true hl7)
  replace hv := Lib.hid hv
  replace hsq := Lib.hid hsq
  replace hp := Lib.hid hp
  replace hq := Lib.hid hq
  have hEW : Hid (∀ W, Below w.heap.size w W → EnvAt W) := fun W hb => hE.next hb
  have hD := Lib.hid (BD.first (f := f) (r := r) (c := c) hA 26)
  have hb : Hid (Below w.heap.size w (w.alloc (.cells #[.int .i64 f, .int .i64 r, .slice A l.length c] 26))) := (Below.refl _ _).alloc (Nat.le_refl _) _
  clear hA hE
  go_enter Tryd.func7, Tryd.ntmps7
  go_upto_region 1 with fail
  generalize hB : w.heap.size = B at hD
  generalize w.alloc (.cells #[.int .i64 f, .int .i64 r, .slice A l.length c] 26) = w1 at *
  have D0 := hD.out.t.c0; have D1 := hD.out.t.c1; have D2 := hD.out.t.c2
  go_wp2_with (first | (go_at_call 9; refine (csmall _ _ _ _ _ _ hl).mono ?_; rintro e w' ⟨rfl, hbw⟩; rw [h7.out]; replace hb := Lib.hid (below_all hb.out hbw); replace hD := Lib.hid (hD.out.next hbw); replace D0 := hD.out.t.c0; replace D1 := hD.out.t.c1; replace D2 := hD.out.t.c2; clear hbw) | (go_at_call 17; refine (rbvalid _ _ _ _ _ _ hD.out.p (by omega)).mono ?_; rintro e w' ⟨rfl, hbw⟩; rw [hv.out]; replace hb := Lib.hid (below_all hb.out hbw); replace hD := Lib.hid (hD.out.next hbw); replace D0 := hD.out.t.c0; replace D1 := hD.out.t.c1; replace D2 := hD.out.t.c2; clear hbw) | (go_at_call 18; refine (rvalidsq _ _ _ _).mono ?_; rintro e w' ⟨rfl, hbw⟩; rw [hsq.out]; replace hb := Lib.hid (below_all hb.out hbw); replace hD := Lib.hid (hD.out.next hbw); replace D0 := hD.out.t.c0; replace D1 := hD.out.t.c1; replace D2 := hD.out.t.c2; clear hbw) | (go_at_call 19; refine (rvalidp _ _).mono ?_; rintro e w' ⟨rfl, rfl⟩; first | rw [hp.out] | rw [hq.out]) | (go_at_call 10; refine (known_3 _ (hEW.out _ hb.out)).mono ?_; rintro e w' ⟨rfl, hbw⟩; replace hb := Lib.hid (below_all hb.out hbw); clear hbw))
  go_ret
  exact ⟨rfl, hb.out⟩
set_option maxRecDepth 100000 in
set_option maxHeartbeats 4000000 in
theorem holds_s (f r : Int) (A : Option Addr) (c : Nat) (l : List Int) (k : Int) (p q : Int) (s : ByteArray) (w : World) (hA : PcsAt w w.heap.size A l) (hE : EnvAt w) (hl7 : l.length ≤ 70) (hv : bdB f r l = true) (hsq : sqB f r k = true) (hp : okP p = true) (hq : okP q = true) (hz : 200 < s.size) (hz2 : s.size ≤ maxLen) : Calls Tryd.prog 7 #[bV f r A l.length c, .int .i64 k, .int .i8 p, .int .i8 q, .string s] w fun e w' => e = .returned (.bool true) ∧ Below w.heap.size w w' := by
  have hl : l.length ≤ maxLen := by unfold maxLen; omega
  have h7 := Lib.hid (decide_eq_true hl7)
  replace hv := Lib.hid hv
  replace hsq := Lib.hid hsq
  replace hp := Lib.hid hp
  replace hq := Lib.hid hq
  have hzI : (200 : Int) < (s.size : Int) := by omega
  unfold maxLen at hz2
  have hEW : Hid (∀ W, Below w.heap.size w W → EnvAt W) := fun W hb => hE.next hb
  have hD := Lib.hid (BD.first (f := f) (r := r) (c := c) hA 26)
  have hb : Hid (Below w.heap.size w (w.alloc (.cells #[.int .i64 f, .int .i64 r, .slice A l.length c] 26))) := (Below.refl _ _).alloc (Nat.le_refl _) _
  clear hA hE
  go_enter Tryd.func7, Tryd.ntmps7
  go_upto_region 1 with fail
  generalize hB : w.heap.size = B at hD
  generalize w.alloc (.cells #[.int .i64 f, .int .i64 r, .slice A l.length c] 26) = w1 at *
  have D0 := hD.out.t.c0; have D1 := hD.out.t.c1; have D2 := hD.out.t.c2
  go_wp2_with (first | (go_at_call 9; refine (csmall _ _ _ _ _ _ hl).mono ?_; rintro e w' ⟨rfl, hbw⟩; rw [h7.out]; replace hb := Lib.hid (below_all hb.out hbw); replace hD := Lib.hid (hD.out.next hbw); replace D0 := hD.out.t.c0; replace D1 := hD.out.t.c1; replace D2 := hD.out.t.c2; clear hbw) | (go_at_call 17; refine (rbvalid _ _ _ _ _ _ hD.out.p (by omega)).mono ?_; rintro e w' ⟨rfl, hbw⟩; rw [hv.out]; replace hb := Lib.hid (below_all hb.out hbw); replace hD := Lib.hid (hD.out.next hbw); replace D0 := hD.out.t.c0; replace D1 := hD.out.t.c1; replace D2 := hD.out.t.c2; clear hbw) | (go_at_call 18; refine (rvalidsq _ _ _ _).mono ?_; rintro e w' ⟨rfl, hbw⟩; rw [hsq.out]; replace hb := Lib.hid (below_all hb.out hbw); replace hD := Lib.hid (hD.out.next hbw); replace D0 := hD.out.t.c0; replace D1 := hD.out.t.c1; replace D2 := hD.out.t.c2; clear hbw) | (go_at_call 19; refine (rvalidp _ _).mono ?_; rintro e w' ⟨rfl, rfl⟩; first | rw [hp.out] | rw [hq.out]) | (go_at_call 10; refine (known_3 _ (hEW.out _ hb.out)).mono ?_; rintro e w' ⟨rfl, hbw⟩; replace hb := Lib.hid (below_all hb.out hbw); clear hbw))
  go_ret
  exact ⟨rfl, hb.out⟩
theorem parB_out {s : ByteArray} {f r : Nat} {P : List Int} (h : parB s = some (f, r, P)) : bdB (f : Int) (r : Int) P = true ∧ boardT f r P = s := by
  unfold parB at h
  simp only at h
  split at h
  · cases h
  · split at h
    · cases h
    · rename_i P' hP
      split at h
      · rename_i hc
        simp only [Option.some.injEq, Prod.mk.injEq] at h
        obtain ⟨rfl, rfl, rfl⟩ := h
        rw [Bool.and_eq_true, decide_eq_true_eq] at hc
        exact hc
      · cases h
theorem rall_x (f r : Int) (w : World) (hs : szB f r = true) {V : Nat} (hV : allV f r = V) : Calls Tryd.prog 32 #[.agg #[.int .i64 f, .int .i64 r]] w fun e w' => e = .returned (.int .u64 (V : Int)) ∧ Below w.heap.size w w' := by subst hV; exact rall f r w hs
theorem ptext_y (f r : Nat) (A : Option Addr) (c : Nat) (l : List Int) (w : World) (hA : PcsAt w w.heap.size A l) (hE : EnvAt w) (hc : l.length ≤ c) (hv : bdB (f : Int) (r : Int) l = true) {T : ByteArray} (hT : boardT f r l = T) : Calls Tryd.prog 28 #[bV (f : Int) (r : Int) A l.length c] w fun e w' => e = .returned (.tuple #[.string T, .int .i64 0]) ∧ Below w.heap.size w w' := by subst hT; exact ptext_yes f r A c l w hA hE hc hv
theorem bd_len {f r : Int} {l : List Int} (h : bdB f r l = true) : 9 ≤ l.length ∧ l.length ≤ 64 := by
  obtain ⟨z1, z2, _⟩ := bdB_out h
  obtain ⟨n, z3, z4, z5, _⟩ := size_nat z1
  omega
theorem kpn_z {s : ByteArray} (w : World) (hE : EnvAt w) (hs : s.size ≤ 1000) (h : parB s = none) {Z : List Int} (hz : [] = Z) : Calls Tryd.prog 30 #[.string s] w (NewBE 0 0 Z 6 w) := by subst hz; exact kpn w hE hs h
theorem bdB_put {f r : Int} {l : List Int} {k : Nat} {p : Int} (h : bdB f r l = true) (hp : okP p = true) : bdB f r (l.set k p) = true := by
  obtain ⟨z1, z2, z3⟩ := bdB_out h
  rw [bdB_in z1 (by rw [List.length_set]; exact z2), List.all_eq_true]
  intro x hx
  rcases List.mem_or_eq_of_mem_set hx with h | h
  · exact decide_eq_true (z3 x h)
  · rw [h]; exact hp
set_option maxRecDepth 100000 in
set_option maxHeartbeats 4000000 in
theorem holds_no (f r : Nat) (A : Option Addr) (c : Nat) (l : List Int) (k : Nat) (p q : Int) (s : ByteArray) (w : World) (hA : PcsAt w w.heap.size A l) (hE : EnvAt w) (hc : l.length ≤ c) (hl7 : l.length ≤ 70) (hv : bdB (f : Int) (r : Int) l = true) (hsq : sqB (f : Int) (r : Int) (k : Int) = true) (hp : okP p = true) (hq : okP q = true) (hz : s.size ≤ 200) (hps : parB s = none) : Calls Tryd.prog 7 #[bV (f : Int) (r : Int) A l.length c, .int .i64 (k : Int), .int .i8 p, .int .i8 q, .string s] w fun e w' => e = .returned (.bool true) ∧ Below w.heap.size w w' := by
  have hl : l.length ≤ maxLen := by unfold maxLen; omega
  have h7 := Lib.hid (decide_eq_true hl7)
  obtain ⟨T, hT⟩ : ∃ T, boardT f r l = T := ⟨_, rfl⟩
  have hTp : Hid (parB T = some (f, r, l)) := by show _ = _; rw [← hT]; exact parB_boardT hv
  have hTs : T.size ≤ 1000 := by rw [← hT]; exact boardT_size hv
  replace hT := Lib.hid hT
  obtain ⟨hl9, hl64⟩ := bd_len hv
  have hszf := Lib.hid (bdB_out hv).1
  have hfr : Hid ((f : Int) * (r : Int) = (l.length : Int)) := (bdB_out hv).2.1.symm
  have hkn : k < l.length := by have := (sqB_out hsq).2.2; rw [hfr.out] at this; omega
  have hk64 : k < 64 := by omega
  obtain ⟨L, hL⟩ : ∃ L : List Int, l.set k p = L := ⟨_, rfl⟩
  have hLl : L.length = l.length := by rw [← hL, List.length_set]
  have hvL : Hid (bdB (f : Int) (r : Int) L = true) := by show _ = _; rw [← hL]; exact bdB_put hv hp
  have hL64 : L.length ≤ 64 := by omega
  obtain ⟨x, hx⟩ : ∃ x, wA (fun y : Int => y == q) L = x := ⟨_, rfl⟩
  obtain ⟨y, hy⟩ : ∃ y, wA (fun y : Int => y == q) l = y := ⟨_, rfl⟩
  obtain ⟨wh, hwh⟩ : ∃ n, wA (fun p : Int => decide (0 < p)) L = n := ⟨_, rfl⟩
  obtain ⟨bl, hbl⟩ : ∃ n, wA (fun p : Int => decide (p < 0)) L = n := ⟨_, rfl⟩
  obtain ⟨nn, hnn⟩ : ∃ n, wA (fun p : Int => p == 0) L = n := ⟨_, rfl⟩
  obtain ⟨al, hal⟩ : ∃ n, allV (f : Int) (r : Int) = n := ⟨_, rfl⟩
  obtain ⟨o1, ho1⟩ : ∃ n, 2 ^ k = n := ⟨_, rfl⟩
  have z_x : x < 18446744073709551616 := by rw [← hx]; exact wA_lt _ _ (by omega)
  have z_y : y < 18446744073709551616 := by rw [← hy]; exact wA_lt _ _ (by omega)
  have z_wh : wh < 18446744073709551616 := by rw [← hwh]; exact wA_lt _ _ (by omega)
  have z_bl : bl < 18446744073709551616 := by rw [← hbl]; exact wA_lt _ _ (by omega)
  have z_nn : nn < 18446744073709551616 := by rw [← hnn]; exact wA_lt _ _ (by omega)
  have z_o : o1 < 18446744073709551616 := by rw [← ho1]; exact (show 2 ^ k < 2 ^ 64 from Nat.pow_lt_pow_right (by decide) hk64)
  have e_o : IntKind.u64.wrap (2 ^ k) = (o1 : Int) := by rw [wrap_pow hk64, ho1]
  obtain ⟨zz, hzz⟩ : ∃ n, y &&& (18446744073709551615 - o1) = n := ⟨_, rfl⟩
  have e_1 : bits BinOp.andNot IntKind.u64 (x : Int) (o1 : Int) = (zz : Int) := by rw [u64_andNot_nat x o1 z_x z_o, ← hzz, ← hx, ← hy, ← hL, ← ho1, put_else _ l k p hkn hk64]
  have e_2 : bits BinOp.andNot IntKind.u64 (y : Int) (o1 : Int) = (zz : Int) := by rw [u64_andNot_nat y o1 z_y z_o, hzz]
  obtain ⟨av, hav, hav2⟩ := put_at l k p q hkn
  rw [hL, ho1, hx] at hav
  have e_3 : bits BinOp.and IntKind.u64 (x : Int) (o1 : Int) = (av : Int) := by rw [bits_and_u64_nat x o1 z_x z_o, hav]
  obtain ⟨V, hV⟩ : ∃ V, (p == q) = V := ⟨_, rfl⟩
  rw [hV] at hav2
  have e_4 : bits BinOp.and IntKind.u64 (wh : Int) (bl : Int) = 0 := by rw [bits_and_u64_nat wh bl z_wh z_bl, ← hwh, ← hbl, wM_apart _ _ (by intro x; simp only [decide_eq_true_eq]; omega)]; rfl
  have e_5 : bits BinOp.and IntKind.u64 (wh : Int) (nn : Int) = 0 := by rw [bits_and_u64_nat wh nn z_wh z_nn, ← hwh, ← hnn, wM_apart _ _ (by intro x; simp only [decide_eq_true_eq, beq_iff_eq]; omega)]; rfl
  have e_6 : bits BinOp.and IntKind.u64 (bl : Int) (nn : Int) = 0 := by rw [bits_and_u64_nat bl nn z_bl z_nn, ← hbl, ← hnn, wM_apart _ _ (by intro x; simp only [decide_eq_true_eq, beq_iff_eq]; omega)]; rfl
  obtain ⟨ww, hww⟩ : ∃ n, wh ||| bl = n := ⟨_, rfl⟩
  have z_ww : ww < 18446744073709551616 := by rw [← hww]; exact Nat.or_lt_two_pow (n := 64) z_wh z_bl
  have e_7 : bits BinOp.or IntKind.u64 (wh : Int) (bl : Int) = (ww : Int) := by rw [bits_or_u64_nat wh bl z_wh z_bl, hww]
  have e_8 : bits BinOp.or IntKind.u64 (ww : Int) (nn : Int) = (al : Int) := by rw [bits_or_u64_nat ww nn z_ww z_nn, ← hww, ← hwh, ← hbl, ← hnn, wM_union _ _ _ (by intro x; simp only [decide_eq_true_eq, beq_iff_eq]; omega), ← hal, hLl]; unfold allV; rw [hfr.out, Int.toNat_natCast]
  clear hav hww hzz z_x z_y z_wh z_bl z_nn z_o z_ww ho1 hLl hkn
  replace hL := Lib.hid hL
  replace hx := Lib.hid hx
  replace hy := Lib.hid hy
  replace hwh := Lib.hid hwh
  replace hbl := Lib.hid hbl
  replace hnn := Lib.hid hnn
  replace hal := Lib.hid hal
  replace hsq := Lib.hid hsq
  replace hp := Lib.hid hp
  replace hq := Lib.hid hq
  replace hv := Lib.hid hv
  replace hps := Lib.hid hps
  have hkn2 : Hid (k < l.length) := by have := (sqB_out hsq.out).2.2; rw [hfr.out] at this; show _ < _; omega
  have hz200 : ((200 : Int) < (s.size : Int)) = False := by rw [eq_iff_iff, iff_false]; omega
  have hokz : Hid (okP 0 = true) := rfl
  obtain ⟨Z, hzn⟩ : ∃ Z : List Int, [] = Z := ⟨_, rfl⟩
  replace hzn := Lib.hid hzn
  have hEW : Hid (∀ W, Below w.heap.size w W → EnvAt W) := fun W hb => hE.next hb
  have hD := Lib.hid (BD.first (f := (f : Int)) (r := (r : Int)) (c := c) hA 26)
  have hb : Hid (Below w.heap.size w (w.alloc (.cells #[.int .i64 (f : Int), .int .i64 (r : Int), .slice A l.length c] 26))) := (Below.refl _ _).alloc (Nat.le_refl _) _
  clear hA hE
  go_enter Tryd.func7, Tryd.ntmps7
  go_upto_region 1 with fail
  generalize hB : w.heap.size = B at hD
  generalize w.alloc (.cells #[.int .i64 (f : Int), .int .i64 (r : Int), .slice A l.length c] 26) = w1 at *
  have D0 := hD.out.t.c0; have D1 := hD.out.t.c1; have D2 := hD.out.t.c2
  go_upto_region 4 with (first | (go_at_call 9; refine (csmall _ _ _ _ _ _ hl).mono ?_; rintro e w' ⟨rfl, hbw⟩; rw [h7.out]; replace hb := Lib.hid (below_all hb.out hbw); replace hD := Lib.hid (hD.out.next hbw); replace D0 := hD.out.t.c0; replace D1 := hD.out.t.c1; replace D2 := hD.out.t.c2; clear hbw) | (go_at_call 17; refine (rbvalid _ _ _ _ _ _ hD.out.p (by omega)).mono ?_; rintro e w' ⟨rfl, hbw⟩; rw [hv.out]; replace hb := Lib.hid (below_all hb.out hbw); replace hD := Lib.hid (hD.out.next hbw); replace D0 := hD.out.t.c0; replace D1 := hD.out.t.c1; replace D2 := hD.out.t.c2; clear hbw) | (go_at_call 18; refine (rvalidsq _ _ _ _).mono ?_; rintro e w' ⟨rfl, hbw⟩; rw [hsq.out]; replace hb := Lib.hid (below_all hb.out hbw); replace hD := Lib.hid (hD.out.next hbw); replace D0 := hD.out.t.c0; replace D1 := hD.out.t.c1; replace D2 := hD.out.t.c2; clear hbw) | (go_at_call 19; refine (rvalidp _ _).mono ?_; rintro e w' ⟨rfl, rfl⟩; first | rw [hp.out] | rw [hq.out]) | (go_at_call 28; refine (ptext_y _ _ _ _ _ _ hD.out.p (hEW.out _ hb.out) hc hv.out hT.out).mono ?_; rintro e w' ⟨rfl, hbw⟩; replace hb := Lib.hid (below_all hb.out hbw); replace hD := Lib.hid (hD.out.next hbw); replace D0 := hD.out.t.c0; replace D1 := hD.out.t.c1; replace D2 := hD.out.t.c2; clear hbw))
  go_wp2_with fail
  go_at_call 30
  refine (kpy _ (hEW.out _ hb.out) hTs hTp.out).mono ?_
  rintro e wC ⟨AC, cC, rfl, hO⟩
  replace hO := Lib.hid hO
  go_upto_region 5 with fail
  have hbo := (hO.out.alloc (.cells #[.int .i64 (f : Int), .int .i64 (r : Int), .slice AC l.length cC] 26)).below
  replace hb := Lib.hid (below_all hb.out hbo); replace hD := Lib.hid (hD.out.next hbo); replace D0 := hD.out.t.c0; replace D1 := hD.out.t.c1; replace D2 := hD.out.t.c2
  have hC := Lib.hid (BD.made hO.out (f : Int) (r : Int) 26)
  clear hbo hO
  generalize hBC : wC.heap.size = BC at *
  generalize wC.alloc (.cells #[.int .i64 (f : Int), .int .i64 (r : Int), .slice AC l.length cC] 26) = vC at *
  clear hBC
  have C0 := hC.out.t.c0; have C1 := hC.out.t.c1; have C2 := hC.out.t.c2
  go_wp2_with fail
  go_at_call 14
  refine (rsameb _ _ _ _ _ _ _ _ _ _ _ hC.out.p hD.out.p (by omega) (by omega)).mono ?_
  rintro e u1 ⟨rfl, hbw⟩
  rw [bEq_rfl]
  replace hb := Lib.hid (below_all hb.out hbw); replace hD := Lib.hid (hD.out.next hbw); replace D0 := hD.out.t.c0; replace D1 := hD.out.t.c1; replace D2 := hD.out.t.c2
  clear hbw
  clear hC C0 C1 C2
  go_upto_region 7 with fail
  go_wp2_with fail
  go_at_call 30
  refine (kpn_z _ (hEW.out _ hb.out) (by omega) hps.out hzn.out).mono ?_
  rintro e wG ⟨AG, cG, rfl, hO⟩
  replace hO := Lib.hid hO
  go_upto_region 8 with fail
  have hbo := (hO.out.alloc (.cells #[.int .i64 0, .int .i64 0, .slice AG Z.length cG] 26)).below
  replace hb := Lib.hid (below_all hb.out hbo); replace hD := Lib.hid (hD.out.next hbo); replace D0 := hD.out.t.c0; replace D1 := hD.out.t.c1; replace D2 := hD.out.t.c2
  have hG := Lib.hid (BD.made hO.out 0 0 26)
  clear hbo hO
  generalize hBG : wG.heap.size = BG at *
  generalize wG.alloc (.cells #[.int .i64 0, .int .i64 0, .slice AG Z.length cG] 26) = vG at *
  clear hBG
  have G0 := hG.out.t.c0; have G1 := hG.out.t.c1; have G2 := hG.out.t.c2
  clear hG G0 G1 G2
  go_upto_region 12 with fail
  go_wp2_with fail
  go_at_call 13
  refine (pput_n _ _ _ _ _ k p _ hD.out.p hl64 hv.out hkn2.out hp.out hL.out).mono ?_
  rintro e wE ⟨AE, cE, rfl, hO⟩
  replace hO := Lib.hid hO
  go_upto_region 13 with fail
  have hbo := (hO.out.alloc (.cells #[.int .i64 (f : Int), .int .i64 (r : Int), .slice AE L.length cE] 26)).below
  replace hb := Lib.hid (below_all hb.out hbo); replace hD := Lib.hid (hD.out.next hbo); replace D0 := hD.out.t.c0; replace D1 := hD.out.t.c1; replace D2 := hD.out.t.c2
  have hE := Lib.hid (BD.made hO.out (f : Int) (r : Int) 26)
  clear hbo hO
  generalize hBE : wE.heap.size = BE at *
  generalize wE.alloc (.cells #[.int .i64 (f : Int), .int .i64 (r : Int), .slice AE L.length cE] 26) = vE at *
  clear hBE
  have E0 := hE.out.t.c0; have E1 := hE.out.t.c1; have E2 := hE.out.t.c2
  go_wp2_with fail
  go_at_call 21
  refine (pfind_x _ _ _ _ _ _ _ hE.out.p hL64 hvL.out hq.out hx.out).mono ?_
  rintro e u2 ⟨rfl, hbw⟩
  replace hb := Lib.hid (below_all hb.out hbw); replace hD := Lib.hid (hD.out.next hbw); replace D0 := hD.out.t.c0; replace D1 := hD.out.t.c1; replace D2 := hD.out.t.c2; replace hE := Lib.hid (hE.out.next hbw); replace E0 := hE.out.t.c0; replace E1 := hE.out.t.c1; replace E2 := hE.out.t.c2
  clear hbw
  go_wp2_with fail
  go_at_call 21
  refine (pfind_x _ _ _ _ _ _ _ hD.out.p hl64 hv.out hq.out hy.out).mono ?_
  rintro e u3 ⟨rfl, hbw⟩
  replace hb := Lib.hid (below_all hb.out hbw); replace hD := Lib.hid (hD.out.next hbw); replace D0 := hD.out.t.c0; replace D1 := hD.out.t.c1; replace D2 := hD.out.t.c2; replace hE := Lib.hid (hE.out.next hbw); replace E0 := hE.out.t.c0; replace E1 := hE.out.t.c1; replace E2 := hE.out.t.c2
  clear hbw
  go_upto_region 18 with fail
  go_wp2_with fail
  go_at_call 22
  refine (psides_x _ _ _ _ _ _ hE.out.p hL64 hvL.out hwh.out hbl.out).mono ?_
  rintro e u4 ⟨rfl, hbw⟩
  replace hb := Lib.hid (below_all hb.out hbw); replace hD := Lib.hid (hD.out.next hbw); replace D0 := hD.out.t.c0; replace D1 := hD.out.t.c1; replace D2 := hD.out.t.c2; replace hE := Lib.hid (hE.out.next hbw); replace E0 := hE.out.t.c0; replace E1 := hE.out.t.c1; replace E2 := hE.out.t.c2
  clear hbw
  go_wp2_with fail
  go_at_call 21
  refine (pfind_x _ _ _ _ _ _ _ hE.out.p hL64 hvL.out hokz.out hnn.out).mono ?_
  rintro e u5 ⟨rfl, hbw⟩
  replace hb := Lib.hid (below_all hb.out hbw); replace hD := Lib.hid (hD.out.next hbw); replace D0 := hD.out.t.c0; replace D1 := hD.out.t.c1; replace D2 := hD.out.t.c2; replace hE := Lib.hid (hE.out.next hbw); replace E0 := hE.out.t.c0; replace E1 := hE.out.t.c1; replace E2 := hE.out.t.c2
  clear hbw
  go_wp2_with fail
  go_at_call 32
  refine (rall_x _ _ _ hszf.out hal.out).mono ?_
  rintro e u6 ⟨rfl, hbw⟩
  replace hb := Lib.hid (below_all hb.out hbw); replace hD := Lib.hid (hD.out.next hbw); replace D0 := hD.out.t.c0; replace D1 := hD.out.t.c1; replace D2 := hD.out.t.c2; replace hE := Lib.hid (hE.out.next hbw); replace E0 := hE.out.t.c0; replace E1 := hE.out.t.c1; replace E2 := hE.out.t.c2
  clear hbw
  go_wp2_with (go_at_call 10; refine (known_3 _ (hEW.out _ hb.out)).mono ?_; rintro e w' ⟨rfl, hbw⟩; replace hb := Lib.hid (below_all hb.out hbw); clear hbw)
  go_ret
  exact ⟨rfl, hb.out⟩
set_option maxRecDepth 100000 in
set_option maxHeartbeats 4000000 in
theorem holds_yes (f r : Nat) (A : Option Addr) (c : Nat) (l : List Int) (k : Nat) (p q : Int) (s : ByteArray) (w : World) (hA : PcsAt w w.heap.size A l) (hE : EnvAt w) (hc : l.length ≤ c) (hl7 : l.length ≤ 70) (hv : bdB (f : Int) (r : Int) l = true) (hsq : sqB (f : Int) (r : Int) (k : Int) = true) (hp : okP p = true) (hq : okP q = true) (hz : s.size ≤ 200) (f' r' : Nat) (P : List Int) (hps : parB s = some (f', r', P)) : Calls Tryd.prog 7 #[bV (f : Int) (r : Int) A l.length c, .int .i64 (k : Int), .int .i8 p, .int .i8 q, .string s] w fun e w' => e = .returned (.bool true) ∧ Below w.heap.size w w' := by
  have hl : l.length ≤ maxLen := by unfold maxLen; omega
  have h7 := Lib.hid (decide_eq_true hl7)
  obtain ⟨T, hT⟩ : ∃ T, boardT f r l = T := ⟨_, rfl⟩
  have hTp : Hid (parB T = some (f, r, l)) := by show _ = _; rw [← hT]; exact parB_boardT hv
  have hTs : T.size ≤ 1000 := by rw [← hT]; exact boardT_size hv
  replace hT := Lib.hid hT
  obtain ⟨hl9, hl64⟩ := bd_len hv
  have hszf := Lib.hid (bdB_out hv).1
  have hfr : Hid ((f : Int) * (r : Int) = (l.length : Int)) := (bdB_out hv).2.1.symm
  have hkn : k < l.length := by have := (sqB_out hsq).2.2; rw [hfr.out] at this; omega
  have hk64 : k < 64 := by omega
  obtain ⟨L, hL⟩ : ∃ L : List Int, l.set k p = L := ⟨_, rfl⟩
  have hLl : L.length = l.length := by rw [← hL, List.length_set]
  have hvL : Hid (bdB (f : Int) (r : Int) L = true) := by show _ = _; rw [← hL]; exact bdB_put hv hp
  have hL64 : L.length ≤ 64 := by omega
  obtain ⟨x, hx⟩ : ∃ x, wA (fun y : Int => y == q) L = x := ⟨_, rfl⟩
  obtain ⟨y, hy⟩ : ∃ y, wA (fun y : Int => y == q) l = y := ⟨_, rfl⟩
  obtain ⟨wh, hwh⟩ : ∃ n, wA (fun p : Int => decide (0 < p)) L = n := ⟨_, rfl⟩
  obtain ⟨bl, hbl⟩ : ∃ n, wA (fun p : Int => decide (p < 0)) L = n := ⟨_, rfl⟩
  obtain ⟨nn, hnn⟩ : ∃ n, wA (fun p : Int => p == 0) L = n := ⟨_, rfl⟩
  obtain ⟨al, hal⟩ : ∃ n, allV (f : Int) (r : Int) = n := ⟨_, rfl⟩
  obtain ⟨o1, ho1⟩ : ∃ n, 2 ^ k = n := ⟨_, rfl⟩
  have z_x : x < 18446744073709551616 := by rw [← hx]; exact wA_lt _ _ (by omega)
  have z_y : y < 18446744073709551616 := by rw [← hy]; exact wA_lt _ _ (by omega)
  have z_wh : wh < 18446744073709551616 := by rw [← hwh]; exact wA_lt _ _ (by omega)
  have z_bl : bl < 18446744073709551616 := by rw [← hbl]; exact wA_lt _ _ (by omega)
  have z_nn : nn < 18446744073709551616 := by rw [← hnn]; exact wA_lt _ _ (by omega)
  have z_o : o1 < 18446744073709551616 := by rw [← ho1]; exact (show 2 ^ k < 2 ^ 64 from Nat.pow_lt_pow_right (by decide) hk64)
  have e_o : IntKind.u64.wrap (2 ^ k) = (o1 : Int) := by rw [wrap_pow hk64, ho1]
  obtain ⟨zz, hzz⟩ : ∃ n, y &&& (18446744073709551615 - o1) = n := ⟨_, rfl⟩
  have e_1 : bits BinOp.andNot IntKind.u64 (x : Int) (o1 : Int) = (zz : Int) := by rw [u64_andNot_nat x o1 z_x z_o, ← hzz, ← hx, ← hy, ← hL, ← ho1, put_else _ l k p hkn hk64]
  have e_2 : bits BinOp.andNot IntKind.u64 (y : Int) (o1 : Int) = (zz : Int) := by rw [u64_andNot_nat y o1 z_y z_o, hzz]
  obtain ⟨av, hav, hav2⟩ := put_at l k p q hkn
  rw [hL, ho1, hx] at hav
  have e_3 : bits BinOp.and IntKind.u64 (x : Int) (o1 : Int) = (av : Int) := by rw [bits_and_u64_nat x o1 z_x z_o, hav]
  obtain ⟨V, hV⟩ : ∃ V, (p == q) = V := ⟨_, rfl⟩
  rw [hV] at hav2
  have e_4 : bits BinOp.and IntKind.u64 (wh : Int) (bl : Int) = 0 := by rw [bits_and_u64_nat wh bl z_wh z_bl, ← hwh, ← hbl, wM_apart _ _ (by intro x; simp only [decide_eq_true_eq]; omega)]; rfl
  have e_5 : bits BinOp.and IntKind.u64 (wh : Int) (nn : Int) = 0 := by rw [bits_and_u64_nat wh nn z_wh z_nn, ← hwh, ← hnn, wM_apart _ _ (by intro x; simp only [decide_eq_true_eq, beq_iff_eq]; omega)]; rfl
  have e_6 : bits BinOp.and IntKind.u64 (bl : Int) (nn : Int) = 0 := by rw [bits_and_u64_nat bl nn z_bl z_nn, ← hbl, ← hnn, wM_apart _ _ (by intro x; simp only [decide_eq_true_eq, beq_iff_eq]; omega)]; rfl
  obtain ⟨ww, hww⟩ : ∃ n, wh ||| bl = n := ⟨_, rfl⟩
  have z_ww : ww < 18446744073709551616 := by rw [← hww]; exact Nat.or_lt_two_pow (n := 64) z_wh z_bl
  have e_7 : bits BinOp.or IntKind.u64 (wh : Int) (bl : Int) = (ww : Int) := by rw [bits_or_u64_nat wh bl z_wh z_bl, hww]
  have e_8 : bits BinOp.or IntKind.u64 (ww : Int) (nn : Int) = (al : Int) := by rw [bits_or_u64_nat ww nn z_ww z_nn, ← hww, ← hwh, ← hbl, ← hnn, wM_union _ _ _ (by intro x; simp only [decide_eq_true_eq, beq_iff_eq]; omega), ← hal, hLl]; unfold allV; rw [hfr.out, Int.toNat_natCast]
  clear hav hww hzz z_x z_y z_wh z_bl z_nn z_o z_ww ho1 hLl hkn
  replace hL := Lib.hid hL
  replace hx := Lib.hid hx
  replace hy := Lib.hid hy
  replace hwh := Lib.hid hwh
  replace hbl := Lib.hid hbl
  replace hnn := Lib.hid hnn
  replace hal := Lib.hid hal
  replace hsq := Lib.hid hsq
  replace hp := Lib.hid hp
  replace hq := Lib.hid hq
  replace hv := Lib.hid hv
  replace hps := Lib.hid hps
  have hkn2 : Hid (k < l.length) := by have := (sqB_out hsq.out).2.2; rw [hfr.out] at this; show _ < _; omega
  have hz200 : ((200 : Int) < (s.size : Int)) = False := by rw [eq_iff_iff, iff_false]; omega
  have hokz : Hid (okP 0 = true) := rfl
  obtain ⟨Z, hzn⟩ : ∃ Z : List Int, [] = Z := ⟨_, rfl⟩
  replace hzn := Lib.hid hzn
  have hEW : Hid (∀ W, Below w.heap.size w W → EnvAt W) := fun W hb => hE.next hb
  have hD := Lib.hid (BD.first (f := (f : Int)) (r := (r : Int)) (c := c) hA 26)
  have hb : Hid (Below w.heap.size w (w.alloc (.cells #[.int .i64 (f : Int), .int .i64 (r : Int), .slice A l.length c] 26))) := (Below.refl _ _).alloc (Nat.le_refl _) _
  clear hA hE
  go_enter Tryd.func7, Tryd.ntmps7
  go_upto_region 1 with fail
  generalize hB : w.heap.size = B at hD
  generalize w.alloc (.cells #[.int .i64 (f : Int), .int .i64 (r : Int), .slice A l.length c] 26) = w1 at *
  have D0 := hD.out.t.c0; have D1 := hD.out.t.c1; have D2 := hD.out.t.c2
  go_upto_region 4 with (first | (go_at_call 9; refine (csmall _ _ _ _ _ _ hl).mono ?_; rintro e w' ⟨rfl, hbw⟩; rw [h7.out]; replace hb := Lib.hid (below_all hb.out hbw); replace hD := Lib.hid (hD.out.next hbw); replace D0 := hD.out.t.c0; replace D1 := hD.out.t.c1; replace D2 := hD.out.t.c2; clear hbw) | (go_at_call 17; refine (rbvalid _ _ _ _ _ _ hD.out.p (by omega)).mono ?_; rintro e w' ⟨rfl, hbw⟩; rw [hv.out]; replace hb := Lib.hid (below_all hb.out hbw); replace hD := Lib.hid (hD.out.next hbw); replace D0 := hD.out.t.c0; replace D1 := hD.out.t.c1; replace D2 := hD.out.t.c2; clear hbw) | (go_at_call 18; refine (rvalidsq _ _ _ _).mono ?_; rintro e w' ⟨rfl, hbw⟩; rw [hsq.out]; replace hb := Lib.hid (below_all hb.out hbw); replace hD := Lib.hid (hD.out.next hbw); replace D0 := hD.out.t.c0; replace D1 := hD.out.t.c1; replace D2 := hD.out.t.c2; clear hbw) | (go_at_call 19; refine (rvalidp _ _).mono ?_; rintro e w' ⟨rfl, rfl⟩; first | rw [hp.out] | rw [hq.out]) | (go_at_call 28; refine (ptext_y _ _ _ _ _ _ hD.out.p (hEW.out _ hb.out) hc hv.out hT.out).mono ?_; rintro e w' ⟨rfl, hbw⟩; replace hb := Lib.hid (below_all hb.out hbw); replace hD := Lib.hid (hD.out.next hbw); replace D0 := hD.out.t.c0; replace D1 := hD.out.t.c1; replace D2 := hD.out.t.c2; clear hbw))
  go_wp2_with fail
  go_at_call 30
  refine (kpy _ (hEW.out _ hb.out) hTs hTp.out).mono ?_
  rintro e wC ⟨AC, cC, rfl, hO⟩
  replace hO := Lib.hid hO
  go_upto_region 5 with fail
  have hbo := (hO.out.alloc (.cells #[.int .i64 (f : Int), .int .i64 (r : Int), .slice AC l.length cC] 26)).below
  replace hb := Lib.hid (below_all hb.out hbo); replace hD := Lib.hid (hD.out.next hbo); replace D0 := hD.out.t.c0; replace D1 := hD.out.t.c1; replace D2 := hD.out.t.c2
  have hC := Lib.hid (BD.made hO.out (f : Int) (r : Int) 26)
  clear hbo hO
  generalize hBC : wC.heap.size = BC at *
  generalize wC.alloc (.cells #[.int .i64 (f : Int), .int .i64 (r : Int), .slice AC l.length cC] 26) = vC at *
  clear hBC
  have C0 := hC.out.t.c0; have C1 := hC.out.t.c1; have C2 := hC.out.t.c2
  go_wp2_with fail
  go_at_call 14
  refine (rsameb _ _ _ _ _ _ _ _ _ _ _ hC.out.p hD.out.p (by omega) (by omega)).mono ?_
  rintro e u1 ⟨rfl, hbw⟩
  rw [bEq_rfl]
  replace hb := Lib.hid (below_all hb.out hbw); replace hD := Lib.hid (hD.out.next hbw); replace D0 := hD.out.t.c0; replace D1 := hD.out.t.c1; replace D2 := hD.out.t.c2
  clear hbw
  clear hC C0 C1 C2
  go_upto_region 7 with fail
  obtain ⟨hvP, hTP⟩ := parB_out hps.out
  have hP9 := Lib.hid (bd_len hvP).1
  replace hvP := Lib.hid hvP
  replace hTP := Lib.hid hTP
  go_wp2_with fail
  go_at_call 30
  refine (kpy _ (hEW.out _ hb.out) (by omega) hps.out).mono ?_
  rintro e wG ⟨AG, cG, rfl, hO⟩
  have hcG := Lib.hid (own_cap hO.own (by have := hP9.out; omega))
  replace hO := Lib.hid hO
  go_upto_region 8 with fail
  have hbo := (hO.out.alloc (.cells #[.int .i64 (f' : Int), .int .i64 (r' : Int), .slice AG P.length cG] 26)).below
  replace hb := Lib.hid (below_all hb.out hbo); replace hD := Lib.hid (hD.out.next hbo); replace D0 := hD.out.t.c0; replace D1 := hD.out.t.c1; replace D2 := hD.out.t.c2
  have hG := Lib.hid (BD.made hO.out (f' : Int) (r' : Int) 26)
  clear hbo hO
  generalize hBG : wG.heap.size = BG at *
  generalize wG.alloc (.cells #[.int .i64 (f' : Int), .int .i64 (r' : Int), .slice AG P.length cG] 26) = vG at *
  clear hBG
  have G0 := hG.out.t.c0; have G1 := hG.out.t.c1; have G2 := hG.out.t.c2
  go_upto_region 12 with (go_at_call 28; refine (ptext_y _ _ _ _ _ _ hG.out.p (hEW.out _ hb.out) hcG.out hvP.out hTP.out).mono ?_; rintro e w' ⟨rfl, hbw⟩; replace hb := Lib.hid (below_all hb.out hbw); replace hD := Lib.hid (hD.out.next hbw); replace D0 := hD.out.t.c0; replace D1 := hD.out.t.c1; replace D2 := hD.out.t.c2; clear hbw)
  clear hG G0 G1 G2
  go_wp2_with fail
  go_at_call 13
  refine (pput_n _ _ _ _ _ k p _ hD.out.p hl64 hv.out hkn2.out hp.out hL.out).mono ?_
  rintro e wE ⟨AE, cE, rfl, hO⟩
  replace hO := Lib.hid hO
  go_upto_region 13 with fail
  have hbo := (hO.out.alloc (.cells #[.int .i64 (f : Int), .int .i64 (r : Int), .slice AE L.length cE] 26)).below
  replace hb := Lib.hid (below_all hb.out hbo); replace hD := Lib.hid (hD.out.next hbo); replace D0 := hD.out.t.c0; replace D1 := hD.out.t.c1; replace D2 := hD.out.t.c2
  have hE := Lib.hid (BD.made hO.out (f : Int) (r : Int) 26)
  clear hbo hO
  generalize hBE : wE.heap.size = BE at *
  generalize wE.alloc (.cells #[.int .i64 (f : Int), .int .i64 (r : Int), .slice AE L.length cE] 26) = vE at *
  clear hBE
  have E0 := hE.out.t.c0; have E1 := hE.out.t.c1; have E2 := hE.out.t.c2
  go_wp2_with fail
  go_at_call 21
  refine (pfind_x _ _ _ _ _ _ _ hE.out.p hL64 hvL.out hq.out hx.out).mono ?_
  rintro e u2 ⟨rfl, hbw⟩
  replace hb := Lib.hid (below_all hb.out hbw); replace hD := Lib.hid (hD.out.next hbw); replace D0 := hD.out.t.c0; replace D1 := hD.out.t.c1; replace D2 := hD.out.t.c2; replace hE := Lib.hid (hE.out.next hbw); replace E0 := hE.out.t.c0; replace E1 := hE.out.t.c1; replace E2 := hE.out.t.c2
  clear hbw
  go_wp2_with fail
  go_at_call 21
  refine (pfind_x _ _ _ _ _ _ _ hD.out.p hl64 hv.out hq.out hy.out).mono ?_
  rintro e u3 ⟨rfl, hbw⟩
  replace hb := Lib.hid (below_all hb.out hbw); replace hD := Lib.hid (hD.out.next hbw); replace D0 := hD.out.t.c0; replace D1 := hD.out.t.c1; replace D2 := hD.out.t.c2; replace hE := Lib.hid (hE.out.next hbw); replace E0 := hE.out.t.c0; replace E1 := hE.out.t.c1; replace E2 := hE.out.t.c2
  clear hbw
  go_upto_region 18 with fail
  go_wp2_with fail
  go_at_call 22
  refine (psides_x _ _ _ _ _ _ hE.out.p hL64 hvL.out hwh.out hbl.out).mono ?_
  rintro e u4 ⟨rfl, hbw⟩
  replace hb := Lib.hid (below_all hb.out hbw); replace hD := Lib.hid (hD.out.next hbw); replace D0 := hD.out.t.c0; replace D1 := hD.out.t.c1; replace D2 := hD.out.t.c2; replace hE := Lib.hid (hE.out.next hbw); replace E0 := hE.out.t.c0; replace E1 := hE.out.t.c1; replace E2 := hE.out.t.c2
  clear hbw
  go_wp2_with fail
  go_at_call 21
  refine (pfind_x _ _ _ _ _ _ _ hE.out.p hL64 hvL.out hokz.out hnn.out).mono ?_
  rintro e u5 ⟨rfl, hbw⟩
  replace hb := Lib.hid (below_all hb.out hbw); replace hD := Lib.hid (hD.out.next hbw); replace D0 := hD.out.t.c0; replace D1 := hD.out.t.c1; replace D2 := hD.out.t.c2; replace hE := Lib.hid (hE.out.next hbw); replace E0 := hE.out.t.c0; replace E1 := hE.out.t.c1; replace E2 := hE.out.t.c2
  clear hbw
  go_wp2_with fail
  go_at_call 32
  refine (rall_x _ _ _ hszf.out hal.out).mono ?_
  rintro e u6 ⟨rfl, hbw⟩
  replace hb := Lib.hid (below_all hb.out hbw); replace hD := Lib.hid (hD.out.next hbw); replace D0 := hD.out.t.c0; replace D1 := hD.out.t.c1; replace D2 := hD.out.t.c2; replace hE := Lib.hid (hE.out.next hbw); replace E0 := hE.out.t.c0; replace E1 := hE.out.t.c1; replace E2 := hE.out.t.c2
  clear hbw
  go_wp2_with (go_at_call 10; refine (known_3 _ (hEW.out _ hb.out)).mono ?_; rintro e w' ⟨rfl, hbw⟩; replace hb := Lib.hid (below_all hb.out hbw); clear hbw)
  go_ret
  exact ⟨rfl, hb.out⟩
theorem law_holds (f r : Int) (A : Option Addr) (c : Nat) (l : List Int) (k : Int) (p q : Int) (s : ByteArray) (w : World) (hA : PcsAt w w.heap.size A l) (hE : EnvAt w) (hl : l.length ≤ maxLen) (hc : l.length ≤ c) (hs : s.size ≤ maxLen) : Calls Tryd.prog 7 #[bV f r A l.length c, .int .i64 k, .int .i8 p, .int .i8 q, .string s] w fun e w' => e = .returned (.bool true) ∧ Below w.heap.size w w' := by
  rcases Nat.lt_or_ge 70 l.length with h7 | h7
  · exact holds_far f r A c l k p q s w hA hE hl h7
  rcases h1 : bdB f r l with _ | _
  · exact holds_v f r A c l k p q s w hA hE h7 h1
  rcases h2 : sqB f r k with _ | _
  · exact holds_sq f r A c l k p q s w hA hE h7 h1 h2
  rcases h3 : okP p with _ | _
  · exact holds_p f r A c l k p q s w hA hE h7 h1 h2 h3
  rcases h4 : okP q with _ | _
  · exact holds_q f r A c l k p q s w hA hE h7 h1 h2 h3 h4
  rcases Nat.lt_or_ge 200 s.size with h5 | h5
  · exact holds_s f r A c l k p q s w hA hE h7 h1 h2 h3 h4 h5 hs
  obtain ⟨z0, z1, z2, z3⟩ := szB_out (bdB_out h1).1
  obtain ⟨fn, rfl⟩ : ∃ n : Nat, f = n := ⟨f.toNat, by omega⟩
  obtain ⟨rn, rfl⟩ : ∃ n : Nat, r = n := ⟨r.toNat, by omega⟩
  obtain ⟨kn, rfl⟩ : ∃ n : Nat, k = n := ⟨k.toNat, by have := (sqB_out h2).2.1; omega⟩
  rcases h6 : parB s with _ | ⟨f', r', P⟩
  · exact holds_no fn rn A c l kn p q s w hA hE hc h7 h1 h2 h3 h4 h5 h6
  · exact holds_yes fn rn A c l kn p q s w hA hE hc h7 h1 h2 h3 h4 h5 f' r' P h6
end Go.Proofs.YtjglpphfkkabnaaDoor
