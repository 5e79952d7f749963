/- Layer 3: the law BoardFinds. Printed by gen_bq.py. -/
import Derived.Test.YtjglpphfkkabnaaDoorBp
namespace Go.Proofs.YtjglpphfkkabnaaDoor
open Go.RowKit
set_option linter.unusedSimpArgs false
set_option linter.unusedVariables false

theorem rlist_x (f r : Int) (A : Option Addr) (c : Nat) (l : List Int) (q : Int) (w : World) (hA : PcsAt w w.heap.size A l) (hl : l.length ≤ 100) {X : List Int} (hX : ixL (fun p : Int => p == q) l l.length = X) : Calls Tryd.prog 25 #[bV f r A l.length c, .int .i8 q] w (NewI X w) := by subst hX; exact rlist f r A c l q w hA hl
theorem rsidel_x (f r : Int) (A : Option Addr) (c : Nat) (l : List Int) (s : Int) (w : World) (hA : PcsAt w w.heap.size A l) (hl : l.length ≤ 100) {X : List Int} (hX : ixL (fun p : Int => p.sign == s) l l.length = X) : Calls Tryd.prog 26 #[bV f r A l.length c, .int .i64 s] w (NewI X w) := by subst hX; exact rsidel f r A c l s w hA hl
theorem pfind_x (f r : Int) (A : Option Addr) (c : Nat) (l : List Int) (q : Int) (w : World) (hA : PcsAt w w.heap.size A l) (hl : l.length ≤ 64) (hv : bdB f r l = true) (hq : okP q = true) {F : Nat} (hF : wA (fun p : Int => p == q) l = F) : Calls Tryd.prog 21 #[bV f r A l.length c, .int .i8 q] w fun e w' => e = .returned (.tuple #[.int .u64 (F : Int), .int .i64 0]) ∧ Below w.heap.size w w' := by subst hF; exact pfind_yes f r A c l q w hA hl hv hq
theorem psides_x (f r : Int) (A : Option Addr) (c : Nat) (l : List Int) (w : World) (hA : PcsAt w w.heap.size A l) (hl : l.length ≤ 64) (hv : bdB f r l = true) {F G : Nat} (hF : wA (fun p : Int => decide (0 < p)) l = F) (hG : wA (fun p : Int => decide (p < 0)) l = G) : Calls Tryd.prog 22 #[bV f r A l.length c] w fun e w' => e = .returned (.tuple #[.int .u64 (F : Int), .int .u64 (G : Int), .int .i64 0]) ∧ Below w.heap.size w w' := by subst hF hG; exact psides_yes f r A c l w hA hl hv
theorem pmat_x (f r : Int) (A : Option Addr) (c : Nat) (l : List Int) (w : World) (hA : PcsAt w w.heap.size A l) (hl : l.length ≤ 64) (hv : bdB f r l = true) (hE : EnvAt w) {M N : Int} (hM : sM wP l l.length = M) (hN : sM nP l l.length = N) : Calls Tryd.prog 23 #[bV f r A l.length c] w fun e w' => e = .returned (.tuple #[.int .i64 M, .int .i64 N, .int .i64 0]) ∧ Below w.heap.size w w' := by subst hM hN; exact pmat_yes f r A c l w hA hl hv hE
theorem rmat_x (f r : Int) (A : Option Addr) (c : Nat) (l : List Int) (s : Int) (w : World) (hA : PcsAt w w.heap.size A l) (hl : l.length ≤ 100) (hall : ∀ p, p ∈ l → -15 ≤ p ∧ p ≤ 15) {M : Int} (hM : sM (fun p : Int => p.sign == s) l l.length = M) : Calls Tryd.prog 27 #[bV f r A l.length c, .int .i64 s] w fun e w' => e = .returned (.int .i64 M) ∧ Below w.heap.size w w' := by subst hM; exact rmat f r A c l s w hA hl hall
theorem ixL_ok (P : Int → Bool) (l : List Int) (hl : l.length ≤ 64) : ∀ j, j < (ixL P l l.length).length → 0 ≤ (ixL P l l.length).getD j 0 ∧ (ixL P l l.length).getD j 0 < 64 := by
  intro j hj
  have h := ixL_mem P l l.length _ (List.getElem_mem hj)
  rw [List.getD, List.getElem?_eq_getElem hj]
  show 0 ≤ (ixL P l l.length)[j] ∧ (ixL P l l.length)[j] < 64
  omega
set_option maxRecDepth 100000 in
set_option maxHeartbeats 2000000 in
theorem finds_far (f r : Int) (A : Option Addr) (c : Nat) (l : List Int) (q : Int) (w : World) (hA : PcsAt w w.heap.size A l) (hE : EnvAt w) (hl : l.length ≤ maxLen) (h : 70 < l.length) : Calls Tryd.prog 4 #[bV f r A l.length c, .int .i8 q] w fun e w' => e = .returned (.bool true) ∧ Below w.heap.size w w' := by
  have h7 := Lib.hid (decide_eq_false (show ¬ l.length ≤ 70 by omega))
  have hEW : Hid (∀ W, Below w.heap.size w W → EnvAt W) := fun W hb => hE.next hb
  have hD := Lib.hid (BD.first (f := f) (r := r) (c := c) hA 26)
  have hb : Hid (Below w.heap.size w (w.alloc (.cells #[.int .i64 f, .int .i64 r, .slice A l.length c] 26))) := (Below.refl _ _).alloc (Nat.le_refl _) _
  clear hA hE
  go_enter Tryd.func4, Tryd.ntmps4
  go_upto_region 1 with fail
  generalize hB : w.heap.size = B at hD
  generalize w.alloc (.cells #[.int .i64 f, .int .i64 r, .slice A l.length c] 26) = w1 at *
  have D0 := hD.out.t.c0; have D1 := hD.out.t.c1; have D2 := hD.out.t.c2
  go_wp2_with (first | (go_at_call 9; refine (csmall _ _ _ _ _ _ hl).mono ?_; rintro e w' ⟨rfl, hbw⟩; rw [h7.out]; replace hb := Lib.hid (below_all hb.out hbw); replace hD := Lib.hid (hD.out.next hbw); replace D0 := hD.out.t.c0; replace D1 := hD.out.t.c1; replace D2 := hD.out.t.c2; clear hbw) | (go_at_call 10; refine (known_3 _ (hEW.out _ hb.out)).mono ?_; rintro e w' ⟨rfl, hbw⟩; replace hb := Lib.hid (below_all hb.out hbw); clear hbw))
  go_ret
  exact ⟨rfl, hb.out⟩
set_option maxRecDepth 100000 in
set_option maxHeartbeats 2000000 in
theorem finds_a (f r : Int) (A : Option Addr) (c : Nat) (l : List Int) (q : Int) (w : World) (hA : PcsAt w w.heap.size A l) (hE : EnvAt w) (hl7 : l.length ≤ 70) (hv : bdB f r l = false) : Calls Tryd.prog 4 #[bV f r A l.length c, .int .i8 q] w fun e w' => e = .returned (.bool true) ∧ Below w.heap.size w w' := by
  have hl : l.length ≤ maxLen := by unfold maxLen; omega
  have h7 := Lib.hid (decide_eq_true hl7)
  replace hv := Lib.hid hv
  have hEW : Hid (∀ W, Below w.heap.size w W → EnvAt W) := fun W hb => hE.next hb
  have hD := Lib.hid (BD.first (f := f) (r := r) (c := c) hA 26)
  have hb : Hid (Below w.heap.size w (w.alloc (.cells #[.int .i64 f, .int .i64 r, .slice A l.length c] 26))) := (Below.refl _ _).alloc (Nat.le_refl _) _
  clear hA hE
  go_enter Tryd.func4, Tryd.ntmps4
  go_upto_region 1 with fail
  generalize hB : w.heap.size = B at hD
  generalize w.alloc (.cells #[.int .i64 f, .int .i64 r, .slice A l.length c] 26) = w1 at *
  have D0 := hD.out.t.c0; have D1 := hD.out.t.c1; have D2 := hD.out.t.c2
  go_wp2_with (first | (go_at_call 9; refine (csmall _ _ _ _ _ _ hl).mono ?_; rintro e w' ⟨rfl, hbw⟩; rw [h7.out]; replace hb := Lib.hid (below_all hb.out hbw); replace hD := Lib.hid (hD.out.next hbw); replace D0 := hD.out.t.c0; replace D1 := hD.out.t.c1; replace D2 := hD.out.t.c2; clear hbw) | (go_at_call 21; refine (pfind_no _ _ _ _ _ _ _ hD.out.p (by omega) (.inl hv.out)).mono ?_; rintro e w' ⟨rfl, hbw⟩; replace hb := Lib.hid (below_all hb.out hbw); replace hD := Lib.hid (hD.out.next hbw); replace D0 := hD.out.t.c0; replace D1 := hD.out.t.c1; replace D2 := hD.out.t.c2; clear hbw) | (go_at_call 22; refine (psides_no _ _ _ _ _ _ hD.out.p (by omega) hv.out).mono ?_; rintro e w' ⟨rfl, hbw⟩; replace hb := Lib.hid (below_all hb.out hbw); replace hD := Lib.hid (hD.out.next hbw); replace D0 := hD.out.t.c0; replace D1 := hD.out.t.c1; replace D2 := hD.out.t.c2; clear hbw) | (go_at_call 23; refine (pmat_no _ _ _ _ _ _ hD.out.p (by omega) hv.out).mono ?_; rintro e w' ⟨rfl, hbw⟩; replace hb := Lib.hid (below_all hb.out hbw); replace hD := Lib.hid (hD.out.next hbw); replace D0 := hD.out.t.c0; replace D1 := hD.out.t.c1; replace D2 := hD.out.t.c2; clear hbw) | (go_at_call 17; refine (rbvalid _ _ _ _ _ _ hD.out.p (by omega)).mono ?_; rintro e w' ⟨rfl, hbw⟩; rw [hv.out]; replace hb := Lib.hid (below_all hb.out hbw); replace hD := Lib.hid (hD.out.next hbw); replace D0 := hD.out.t.c0; replace D1 := hD.out.t.c1; replace D2 := hD.out.t.c2; clear hbw) | (go_at_call 10; refine (known_3 _ (hEW.out _ hb.out)).mono ?_; rintro e w' ⟨rfl, hbw⟩; replace hb := Lib.hid (below_all hb.out hbw); clear hbw))
  go_ret
  exact ⟨rfl, hb.out⟩
set_option maxRecDepth 100000 in
set_option maxHeartbeats 2000000 in
theorem finds_b (f r : Int) (A : Option Addr) (c : Nat) (l : List Int) (q : Int) (w : World) (hA : PcsAt w w.heap.size A l) (hE : EnvAt w) (hl7 : l.length ≤ 70) (hv : bdB f r l = true) (hq : okP q = false) : Calls Tryd.prog 4 #[bV f r A l.length c, .int .i8 q] w fun e w' => e = .returned (.bool true) ∧ Below w.heap.size w w' := by
  have hl : l.length ≤ maxLen := by unfold maxLen; omega
  have h7 := Lib.hid (decide_eq_true hl7)
  have hl64 : l.length ≤ 64 := by obtain ⟨z1, z2, _⟩ := bdB_out hv; obtain ⟨n, z3, _, z4, _⟩ := size_nat z1; omega
  have hall := Lib.hid (bdB_out hv).2.2
  replace hv := Lib.hid hv
  replace hq := Lib.hid hq
  obtain ⟨W1, hW1⟩ : ∃ n, wA (fun p : Int => decide (0 < p)) l = n := ⟨_, rfl⟩
  obtain ⟨XS, hS0⟩ : ∃ X, ixL (fun p : Int => p.sign == 1) l l.length = X := ⟨_, rfl⟩
  have hS1 : XS.length < 1000 := by rw [← hS0]; have := ixL_len (fun p : Int => p.sign == 1) l l.length; omega
  have hS2 : Hid (∀ j, j < XS.length → 0 ≤ XS.getD j 0 ∧ XS.getD j 0 < 64) := by show ∀ j, _; rw [← hS0]; exact ixL_ok _ l hl64
  have hS3 : Hid (ofL XS XS.length = W1) := by show _ = _; rw [← hS0, ofL_ixL, ← hW1]; exact wM_congr sgn_w l l.length
  replace hW1 := Lib.hid hW1
  replace hS0 := Lib.hid hS0
  obtain ⟨B1, hB1⟩ : ∃ n, wA (fun p : Int => decide (p < 0)) l = n := ⟨_, rfl⟩
  obtain ⟨XT, hT0⟩ : ∃ X, ixL (fun p : Int => p.sign == -1) l l.length = X := ⟨_, rfl⟩
  have hT1 : XT.length < 1000 := by rw [← hT0]; have := ixL_len (fun p : Int => p.sign == -1) l l.length; omega
  have hT2 : Hid (∀ j, j < XT.length → 0 ≤ XT.getD j 0 ∧ XT.getD j 0 < 64) := by show ∀ j, _; rw [← hT0]; exact ixL_ok _ l hl64
  have hT3 : Hid (ofL XT XT.length = B1) := by show _ = _; rw [← hT0, ofL_ixL, ← hB1]; exact wM_congr sgn_b l l.length
  replace hB1 := Lib.hid hB1
  replace hT0 := Lib.hid hT0
  obtain ⟨M1, hM1⟩ : ∃ M, sM wP l l.length = M := ⟨_, rfl⟩
  obtain ⟨M2, hM2⟩ : ∃ M, sM nP l l.length = M := ⟨_, rfl⟩
  have hm1 : Hid (sM (fun p : Int => p.sign == 1) l l.length = M1) := by show _ = _; rw [← hM1]; exact sM_congr sgn_w l l.length
  have hm2 : Hid (sM (fun p : Int => p.sign == -1) l l.length = M2) := by show _ = _; rw [← hM2]; exact sM_black l l.length
  replace hM1 := Lib.hid hM1
  replace hM2 := Lib.hid hM2
  have hEW : Hid (∀ W, Below w.heap.size w W → EnvAt W) := fun W hb => hE.next hb
  have hD := Lib.hid (BD.first (f := f) (r := r) (c := c) hA 26)
  have hb : Hid (Below w.heap.size w (w.alloc (.cells #[.int .i64 f, .int .i64 r, .slice A l.length c] 26))) := (Below.refl _ _).alloc (Nat.le_refl _) _
  clear hA hE
  go_enter Tryd.func4, Tryd.ntmps4
  go_upto_region 1 with fail
  generalize hB : w.heap.size = B at hD
  generalize w.alloc (.cells #[.int .i64 f, .int .i64 r, .slice A l.length c] 26) = w1 at *
  have D0 := hD.out.t.c0; have D1 := hD.out.t.c1; have D2 := hD.out.t.c2
  go_upto_region 13 with (first | (go_at_call 9; refine (csmall _ _ _ _ _ _ hl).mono ?_; rintro e w' ⟨rfl, hbw⟩; rw [h7.out]; replace hb := Lib.hid (below_all hb.out hbw); replace hD := Lib.hid (hD.out.next hbw); replace D0 := hD.out.t.c0; replace D1 := hD.out.t.c1; replace D2 := hD.out.t.c2; clear hbw) | (go_at_call 21; refine (pfind_no _ _ _ _ _ _ _ hD.out.p (by omega) (.inr ⟨hv.out, hq.out⟩)).mono ?_; rintro e w' ⟨rfl, hbw⟩; replace hb := Lib.hid (below_all hb.out hbw); replace hD := Lib.hid (hD.out.next hbw); replace D0 := hD.out.t.c0; replace D1 := hD.out.t.c1; replace D2 := hD.out.t.c2; clear hbw) | (go_at_call 22; refine (psides_x _ _ _ _ _ _ hD.out.p hl64 hv.out hW1.out hB1.out).mono ?_; rintro e w' ⟨rfl, hbw⟩; replace hb := Lib.hid (below_all hb.out hbw); replace hD := Lib.hid (hD.out.next hbw); replace D0 := hD.out.t.c0; replace D1 := hD.out.t.c1; replace D2 := hD.out.t.c2; clear hbw) | (go_at_call 23; refine (pmat_x _ _ _ _ _ _ hD.out.p hl64 hv.out (hEW.out _ hb.out) hM1.out hM2.out).mono ?_; rintro e w' ⟨rfl, hbw⟩; replace hb := Lib.hid (below_all hb.out hbw); replace hD := Lib.hid (hD.out.next hbw); replace D0 := hD.out.t.c0; replace D1 := hD.out.t.c1; replace D2 := hD.out.t.c2; clear hbw) | (go_at_call 17; refine (rbvalid _ _ _ _ _ _ hD.out.p (by omega)).mono ?_; rintro e w' ⟨rfl, hbw⟩; rw [hv.out]; replace hb := Lib.hid (below_all hb.out hbw); replace hD := Lib.hid (hD.out.next hbw); replace D0 := hD.out.t.c0; replace D1 := hD.out.t.c1; replace D2 := hD.out.t.c2; clear hbw) | (go_at_call 19; refine (rvalidp _ _).mono ?_; rintro e w' ⟨rfl, rfl⟩; rw [hq.out]))
  go_wp2_with fail
  go_at_call 26
  refine (rsidel_x _ _ _ _ _ _ _ hD.out.p (by omega) hS0.out).mono ?_
  rintro e y2 ⟨A2, c2, rfl, hO⟩
  have hX2 := Lib.hid (RecAt.of_own iEnc_len rfl hO.own)
  replace hO := Lib.hid hO.below
  replace hb := Lib.hid (below_all hb.out hO.out); replace hD := Lib.hid (hD.out.next hO.out); replace D0 := hD.out.t.c0; replace D1 := hD.out.t.c1; replace D2 := hD.out.t.c2
  clear hO
  go_wp2_with fail
  go_at_call 24
  refine (rof _ _ _ _ hS1 hS2.out hX2.out).mono ?_
  rintro e w' ⟨rfl, rfl⟩
  rw [hS3.out]
  go_wp2_with fail
  go_at_call 26
  refine (rsidel_x _ _ _ _ _ _ _ hD.out.p (by omega) hT0.out).mono ?_
  rintro e y3 ⟨A3, c3, rfl, hO⟩
  have hX3 := Lib.hid (RecAt.of_own iEnc_len rfl hO.own)
  replace hO := Lib.hid hO.below
  replace hb := Lib.hid (below_all hb.out hO.out); replace hD := Lib.hid (hD.out.next hO.out); replace D0 := hD.out.t.c0; replace D1 := hD.out.t.c1; replace D2 := hD.out.t.c2
  clear hO
  go_wp2_with fail
  go_at_call 24
  refine (rof _ _ _ _ hT1 hT2.out hX3.out).mono ?_
  rintro e w' ⟨rfl, rfl⟩
  rw [hT3.out]
  go_wp2_with fail
  go_at_call 27
  refine (rmat_x _ _ _ _ _ _ _ hD.out.p (by omega) hall.out hm1.out).mono ?_
  rintro e z1 ⟨rfl, hbw⟩
  replace hb := Lib.hid (below_all hb.out hbw); replace hD := Lib.hid (hD.out.next hbw); replace D0 := hD.out.t.c0; replace D1 := hD.out.t.c1; replace D2 := hD.out.t.c2
  clear hbw
  go_wp2_with fail
  go_at_call 27
  refine (rmat_x _ _ _ _ _ _ _ hD.out.p (by omega) hall.out hm2.out).mono ?_
  rintro e z2 ⟨rfl, hbw⟩
  replace hb := Lib.hid (below_all hb.out hbw); replace hD := Lib.hid (hD.out.next hbw); replace D0 := hD.out.t.c0; replace D1 := hD.out.t.c1; replace D2 := hD.out.t.c2
  clear hbw
  go_wp2_with (go_at_call 10; refine (known_3 _ (hEW.out _ hb.out)).mono ?_; rintro e w' ⟨rfl, hbw⟩; replace hb := Lib.hid (below_all hb.out hbw); clear hbw)
  go_ret
  exact ⟨rfl, hb.out⟩
set_option maxRecDepth 100000 in
set_option maxHeartbeats 2000000 in
theorem finds_c (f r : Int) (A : Option Addr) (c : Nat) (l : List Int) (q : Int) (w : World) (hA : PcsAt w w.heap.size A l) (hE : EnvAt w) (hl7 : l.length ≤ 70) (hv : bdB f r l = true) (hq : okP q = true) : Calls Tryd.prog 4 #[bV f r A l.length c, .int .i8 q] w fun e w' => e = .returned (.bool true) ∧ Below w.heap.size w w' := by
  have hl : l.length ≤ maxLen := by unfold maxLen; omega
  have h7 := Lib.hid (decide_eq_true hl7)
  have hl64 : l.length ≤ 64 := by obtain ⟨z1, z2, _⟩ := bdB_out hv; obtain ⟨n, z3, _, z4, _⟩ := size_nat z1; omega
  have hall := Lib.hid (bdB_out hv).2.2
  replace hv := Lib.hid hv
  replace hq := Lib.hid hq
  obtain ⟨F1, hF1⟩ : ∃ n, wA (fun p : Int => p == q) l = n := ⟨_, rfl⟩
  obtain ⟨XL, hL0⟩ : ∃ X, ixL (fun p : Int => p == q) l l.length = X := ⟨_, rfl⟩
  have hL1 : XL.length < 1000 := by rw [← hL0]; have := ixL_len (fun p : Int => p == q) l l.length; omega
  have hL2 : Hid (∀ j, j < XL.length → 0 ≤ XL.getD j 0 ∧ XL.getD j 0 < 64) := by show ∀ j, _; rw [← hL0]; exact ixL_ok _ l hl64
  have hL3 : Hid (ofL XL XL.length = F1) := by show _ = _; rw [← hL0, ofL_ixL, ← hF1]; exact rfl
  replace hF1 := Lib.hid hF1
  replace hL0 := Lib.hid hL0
  obtain ⟨W1, hW1⟩ : ∃ n, wA (fun p : Int => decide (0 < p)) l = n := ⟨_, rfl⟩
  obtain ⟨XS, hS0⟩ : ∃ X, ixL (fun p : Int => p.sign == 1) l l.length = X := ⟨_, rfl⟩
  have hS1 : XS.length < 1000 := by rw [← hS0]; have := ixL_len (fun p : Int => p.sign == 1) l l.length; omega
  have hS2 : Hid (∀ j, j < XS.length → 0 ≤ XS.getD j 0 ∧ XS.getD j 0 < 64) := by show ∀ j, _; rw [← hS0]; exact ixL_ok _ l hl64
  have hS3 : Hid (ofL XS XS.length = W1) := by show _ = _; rw [← hS0, ofL_ixL, ← hW1]; exact wM_congr sgn_w l l.length
  replace hW1 := Lib.hid hW1
  replace hS0 := Lib.hid hS0
  obtain ⟨B1, hB1⟩ : ∃ n, wA (fun p : Int => decide (p < 0)) l = n := ⟨_, rfl⟩
  obtain ⟨XT, hT0⟩ : ∃ X, ixL (fun p : Int => p.sign == -1) l l.length = X := ⟨_, rfl⟩
  have hT1 : XT.length < 1000 := by rw [← hT0]; have := ixL_len (fun p : Int => p.sign == -1) l l.length; omega
  have hT2 : Hid (∀ j, j < XT.length → 0 ≤ XT.getD j 0 ∧ XT.getD j 0 < 64) := by show ∀ j, _; rw [← hT0]; exact ixL_ok _ l hl64
  have hT3 : Hid (ofL XT XT.length = B1) := by show _ = _; rw [← hT0, ofL_ixL, ← hB1]; exact wM_congr sgn_b l l.length
  replace hB1 := Lib.hid hB1
  replace hT0 := Lib.hid hT0
  obtain ⟨M1, hM1⟩ : ∃ M, sM wP l l.length = M := ⟨_, rfl⟩
  obtain ⟨M2, hM2⟩ : ∃ M, sM nP l l.length = M := ⟨_, rfl⟩
  have hm1 : Hid (sM (fun p : Int => p.sign == 1) l l.length = M1) := by show _ = _; rw [← hM1]; exact sM_congr sgn_w l l.length
  have hm2 : Hid (sM (fun p : Int => p.sign == -1) l l.length = M2) := by show _ = _; rw [← hM2]; exact sM_black l l.length
  replace hM1 := Lib.hid hM1
  replace hM2 := Lib.hid hM2
  have hEW : Hid (∀ W, Below w.heap.size w W → EnvAt W) := fun W hb => hE.next hb
  have hD := Lib.hid (BD.first (f := f) (r := r) (c := c) hA 26)
  have hb : Hid (Below w.heap.size w (w.alloc (.cells #[.int .i64 f, .int .i64 r, .slice A l.length c] 26))) := (Below.refl _ _).alloc (Nat.le_refl _) _
  clear hA hE
  go_enter Tryd.func4, Tryd.ntmps4
  go_upto_region 1 with fail
  generalize hB : w.heap.size = B at hD
  generalize w.alloc (.cells #[.int .i64 f, .int .i64 r, .slice A l.length c] 26) = w1 at *
  have D0 := hD.out.t.c0; have D1 := hD.out.t.c1; have D2 := hD.out.t.c2
  go_upto_region 11 with (first | (go_at_call 9; refine (csmall _ _ _ _ _ _ hl).mono ?_; rintro e w' ⟨rfl, hbw⟩; rw [h7.out]; replace hb := Lib.hid (below_all hb.out hbw); replace hD := Lib.hid (hD.out.next hbw); replace D0 := hD.out.t.c0; replace D1 := hD.out.t.c1; replace D2 := hD.out.t.c2; clear hbw) | (go_at_call 21; refine (pfind_x _ _ _ _ _ _ _ hD.out.p hl64 hv.out hq.out hF1.out).mono ?_; rintro e w' ⟨rfl, hbw⟩; replace hb := Lib.hid (below_all hb.out hbw); replace hD := Lib.hid (hD.out.next hbw); replace D0 := hD.out.t.c0; replace D1 := hD.out.t.c1; replace D2 := hD.out.t.c2; clear hbw) | (go_at_call 22; refine (psides_x _ _ _ _ _ _ hD.out.p hl64 hv.out hW1.out hB1.out).mono ?_; rintro e w' ⟨rfl, hbw⟩; replace hb := Lib.hid (below_all hb.out hbw); replace hD := Lib.hid (hD.out.next hbw); replace D0 := hD.out.t.c0; replace D1 := hD.out.t.c1; replace D2 := hD.out.t.c2; clear hbw) | (go_at_call 23; refine (pmat_x _ _ _ _ _ _ hD.out.p hl64 hv.out (hEW.out _ hb.out) hM1.out hM2.out).mono ?_; rintro e w' ⟨rfl, hbw⟩; replace hb := Lib.hid (below_all hb.out hbw); replace hD := Lib.hid (hD.out.next hbw); replace D0 := hD.out.t.c0; replace D1 := hD.out.t.c1; replace D2 := hD.out.t.c2; clear hbw) | (go_at_call 17; refine (rbvalid _ _ _ _ _ _ hD.out.p (by omega)).mono ?_; rintro e w' ⟨rfl, hbw⟩; rw [hv.out]; replace hb := Lib.hid (below_all hb.out hbw); replace hD := Lib.hid (hD.out.next hbw); replace D0 := hD.out.t.c0; replace D1 := hD.out.t.c1; replace D2 := hD.out.t.c2; clear hbw) | (go_at_call 19; refine (rvalidp _ _).mono ?_; rintro e w' ⟨rfl, rfl⟩; rw [hq.out]))
  go_wp2_with fail
  go_at_call 25
  refine (rlist_x _ _ _ _ _ _ _ hD.out.p (by omega) hL0.out).mono ?_
  rintro e y1 ⟨A1, c1, rfl, hO⟩
  have hX1 := Lib.hid (RecAt.of_own iEnc_len rfl hO.own)
  replace hO := Lib.hid hO.below
  replace hb := Lib.hid (below_all hb.out hO.out); replace hD := Lib.hid (hD.out.next hO.out); replace D0 := hD.out.t.c0; replace D1 := hD.out.t.c1; replace D2 := hD.out.t.c2
  clear hO
  go_wp2_with fail
  go_at_call 24
  refine (rof _ _ _ _ hL1 hL2.out hX1.out).mono ?_
  rintro e w' ⟨rfl, rfl⟩
  rw [hL3.out]
  go_upto_region 13 with fail
  go_wp2_with fail
  go_at_call 26
  refine (rsidel_x _ _ _ _ _ _ _ hD.out.p (by omega) hS0.out).mono ?_
  rintro e y2 ⟨A2, c2, rfl, hO⟩
  have hX2 := Lib.hid (RecAt.of_own iEnc_len rfl hO.own)
  replace hO := Lib.hid hO.below
  replace hb := Lib.hid (below_all hb.out hO.out); replace hD := Lib.hid (hD.out.next hO.out); replace D0 := hD.out.t.c0; replace D1 := hD.out.t.c1; replace D2 := hD.out.t.c2
  clear hO
  go_wp2_with fail
  go_at_call 24
  refine (rof _ _ _ _ hS1 hS2.out hX2.out).mono ?_
  rintro e w' ⟨rfl, rfl⟩
  rw [hS3.out]
  go_wp2_with fail
  go_at_call 26
  refine (rsidel_x _ _ _ _ _ _ _ hD.out.p (by omega) hT0.out).mono ?_
  rintro e y3 ⟨A3, c3, rfl, hO⟩
  have hX3 := Lib.hid (RecAt.of_own iEnc_len rfl hO.own)
  replace hO := Lib.hid hO.below
  replace hb := Lib.hid (below_all hb.out hO.out); replace hD := Lib.hid (hD.out.next hO.out); replace D0 := hD.out.t.c0; replace D1 := hD.out.t.c1; replace D2 := hD.out.t.c2
  clear hO
  go_wp2_with fail
  go_at_call 24
  refine (rof _ _ _ _ hT1 hT2.out hX3.out).mono ?_
  rintro e w' ⟨rfl, rfl⟩
  rw [hT3.out]
  go_wp2_with fail
  go_at_call 27
  refine (rmat_x _ _ _ _ _ _ _ hD.out.p (by omega) hall.out hm1.out).mono ?_
  rintro e z1 ⟨rfl, hbw⟩
  replace hb := Lib.hid (below_all hb.out hbw); replace hD := Lib.hid (hD.out.next hbw); replace D0 := hD.out.t.c0; replace D1 := hD.out.t.c1; replace D2 := hD.out.t.c2
  clear hbw
  go_wp2_with fail
  go_at_call 27
  refine (rmat_x _ _ _ _ _ _ _ hD.out.p (by omega) hall.out hm2.out).mono ?_
  rintro e z2 ⟨rfl, hbw⟩
  replace hb := Lib.hid (below_all hb.out hbw); replace hD := Lib.hid (hD.out.next hbw); replace D0 := hD.out.t.c0; replace D1 := hD.out.t.c1; replace D2 := hD.out.t.c2
  clear hbw
  go_wp2_with (go_at_call 10; refine (known_3 _ (hEW.out _ hb.out)).mono ?_; rintro e w' ⟨rfl, hbw⟩; replace hb := Lib.hid (below_all hb.out hbw); clear hbw)
  go_ret
  exact ⟨rfl, hb.out⟩
theorem law_finds (f r : Int) (A : Option Addr) (c : Nat) (l : List Int) (q : Int) (w : World) (hA : PcsAt w w.heap.size A l) (hE : EnvAt w) (hl : l.length ≤ maxLen) : Calls Tryd.prog 4 #[bV f r A l.length c, .int .i8 q] w fun e w' => e = .returned (.bool true) ∧ Below w.heap.size w w' := by
  rcases Nat.lt_or_ge 70 l.length with h7 | h7
  · exact finds_far f r A c l q w hA hE hl h7
  rcases h1 : bdB f r l with _ | _
  · exact finds_a f r A c l q w hA hE h7 h1
  rcases h3 : okP q with _ | _
  · exact finds_b f r A c l q w hA hE h7 h1 h3
  · exact finds_c f r A c l q w hA hE h7 h1 h3
end Go.Proofs.YtjglpphfkkabnaaDoor
