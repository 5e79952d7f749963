/- Layer 3: the law BoardPuts. Printed by gen_bn.py. -/
import Derived.Test.YtjglpphfkkabnaaDoorBm
namespace Go.Proofs.YtjglpphfkkabnaaDoor
open Go.RowKit
set_option linter.unusedSimpArgs false
set_option linter.unusedVariables false

theorem BD.first {f r : Int} {l : List Int} {A : Option Addr} {c : Nat} {w : World} (hA : PcsAt w w.heap.size A l) (t : TypeId) : BD f r l A c w.heap.size (w.alloc (.cells #[.int .i64 f, .int .i64 r, .slice A l.length c] t)) :=
  ⟨tri_new _ _ _ _ _ _ rfl, (hA.below (Nat.le_refl _) ((Below.refl _ _).alloc (Nat.le_refl _) _)).more (by simp)⟩
theorem pempty_z (f r : Int) (w : World) (h : szB f r = false) {Z : List Int} (hz : [] = Z) : Calls Tryd.prog 12 #[.agg #[.int .i64 f, .int .i64 r]] w (NewBE 0 0 Z 2 w) := by subst hz; exact pempty_no f r w h
theorem pput_z (f r : Int) (A : Option Addr) (c : Nat) (l : List Int) (k : Int) (p : Int) (w : World) (hA : PcsAt w w.heap.size A l) (hl : l.length ≤ 100000) (hv : bdB f r l = false ∨ (bdB f r l = true ∧ sqB f r k = false) ∨ (bdB f r l = true ∧ sqB f r k = true ∧ okP p = false)) {Z : List Int} (hz : [] = Z) :
    Calls Tryd.prog 13 #[bV f r A l.length c, .int .i64 k, .int .i8 p] w (NewBE 0 0 Z 2 w) := by subst hz; exact pput_no f r A c l k p w hA hl hv
theorem bEq_z {Z : List Int} (hz : [] = Z) : bEq 0 0 Z 0 0 [] = true := by subst hz; rfl
theorem pcs_nil (w : World) (B : Nat) (A : Option Addr) : PcsAt w B A [] := fun h => absurd h (by simp)
set_option maxRecDepth 100000 in
set_option maxHeartbeats 1000000 in
theorem puts_far (f r : Int) (A : Option Addr) (c : Nat) (l : List Int) (k p : Int) (w : World) (hA : PcsAt w w.heap.size A l) (hE : EnvAt w) (hl : l.length ≤ maxLen) (h : 70 < l.length) : Calls Tryd.prog 3 #[bV f r A l.length c, .int .i64 k, .int .i8 p] w fun e w' => e = .returned (.bool true) ∧ Below w.heap.size w w' := by
  have h7 := Lib.hid (decide_eq_false (show ¬ l.length ≤ 70 by omega))
  have hEW : Hid (∀ W, Below w.heap.size w W → EnvAt W) := fun W hb => hE.next hb
  have hD := Lib.hid (BD.first (f := f) (r := r) (c := c) hA 26)
  have hb : Hid (Below w.heap.size w (w.alloc (.cells #[.int .i64 f, .int .i64 r, .slice A l.length c] 26))) := (Below.refl _ _).alloc (Nat.le_refl _) _
  clear hA hE
  go_enter Tryd.func3, Tryd.ntmps3
  go_upto_region 1 with fail
  generalize hB : w.heap.size = B at hD
  generalize w.alloc (.cells #[.int .i64 f, .int .i64 r, .slice A l.length c] 26) = w1 at *
  have D0 := hD.out.t.c0; have D1 := hD.out.t.c1; have D2 := hD.out.t.c2
  go_wp2_with (first | (go_at_call 9; refine (csmall _ _ _ _ _ _ hl).mono ?_; rintro e w' ⟨rfl, hbw⟩; rw [h7.out]; replace hb := Lib.hid (below_all hb.out hbw); replace hD := Lib.hid (hD.out.next hbw); replace D0 := hD.out.t.c0; replace D1 := hD.out.t.c1; replace D2 := hD.out.t.c2; clear hbw) | (go_at_call 10; refine (known_3 _ (hEW.out _ hb.out)).mono ?_; rintro e w' ⟨rfl, hbw⟩; replace hb := Lib.hid (below_all hb.out hbw); clear hbw))
  go_ret
  exact ⟨rfl, hb.out⟩
theorem pempty_n (f r : Int) (w : World) (h : szB f r = true) (n : Nat) (hn : f * r = (n : Int)) (hn9 : n ≤ 64) {L : List Int} (hL : List.replicate n 0 = L) : Calls Tryd.prog 12 #[.agg #[.int .i64 f, .int .i64 r]] w (NewBE f r L 0 w) := by subst hL; exact pempty_yes f r w h n hn hn9
theorem rempty_n (f r : Int) (w : World) (h : szB f r = true) (n : Nat) (hn : f * r = (n : Int)) (hn9 : n ≤ 64) {L : List Int} (hL : List.replicate n 0 = L) : Calls Tryd.prog 16 #[.agg #[.int .i64 f, .int .i64 r]] w (NewB f r L w) := by subst hL; exact rempty f r w h n hn hn9
set_option maxRecDepth 100000 in
set_option maxHeartbeats 1000000 in
theorem puts_a (f r : Int) (A : Option Addr) (c : Nat) (l : List Int) (k p : Int) (w : World) (hA : PcsAt w w.heap.size A l) (hE : EnvAt w) (hl7 : l.length ≤ 70) (h : szB f r = false) : Calls Tryd.prog 3 #[bV f r A l.length c, .int .i64 k, .int .i8 p] w fun e w' => e = .returned (.bool true) ∧ Below w.heap.size w w' := by
  have hl : l.length ≤ maxLen := by unfold maxLen; omega
  have h7 := Lib.hid (decide_eq_true hl7)
  have hv1 := Lib.hid (bdB_sz (l := l) h)
  have hv : Hid (bdB f r l = false ∨ (bdB f r l = true ∧ sqB f r k = false) ∨ (bdB f r l = true ∧ sqB f r k = true ∧ okP p = false)) := .inl hv1.out
  obtain ⟨Z, hz⟩ : ∃ Z : List Int, [] = Z := ⟨_, rfl⟩
  have hZ1 : Z.length ≤ 100 := by subst hz; simp
  replace hz := Lib.hid hz
  have hEW : Hid (∀ W, Below w.heap.size w W → EnvAt W) := fun W hb => hE.next hb
  have hD := Lib.hid (BD.first (f := f) (r := r) (c := c) hA 26)
  have hb : Hid (Below w.heap.size w (w.alloc (.cells #[.int .i64 f, .int .i64 r, .slice A l.length c] 26))) := (Below.refl _ _).alloc (Nat.le_refl _) _
  clear hA hE
  go_enter Tryd.func3, Tryd.ntmps3
  go_upto_region 1 with fail
  generalize hB : w.heap.size = B at hD
  generalize w.alloc (.cells #[.int .i64 f, .int .i64 r, .slice A l.length c] 26) = w1 at *
  have D0 := hD.out.t.c0; have D1 := hD.out.t.c1; have D2 := hD.out.t.c2
  go_upto_region 3 with (go_at_call 9; refine (csmall _ _ _ _ _ _ hl).mono ?_; rintro e w' ⟨rfl, hbw⟩; rw [h7.out]; replace hb := Lib.hid (below_all hb.out hbw); replace hD := Lib.hid (hD.out.next hbw); replace D0 := hD.out.t.c0; replace D1 := hD.out.t.c1; replace D2 := hD.out.t.c2; clear hbw)
  go_wp2_with fail
  go_at_call 11
  refine (rcopy _ _ _ _ _ _ hD.out.p (by omega)).mono ?_
  rintro e wY ⟨AY, cY, rfl, hO⟩
  replace hO := Lib.hid hO
  go_upto_region 4 with fail
  have hbo := (hO.out.alloc (.cells #[.int .i64 f, .int .i64 r, .slice AY l.length cY] 26)).below
  replace hb := Lib.hid (below_all hb.out hbo); replace hD := Lib.hid (hD.out.next hbo); replace D0 := hD.out.t.c0; replace D1 := hD.out.t.c1; replace D2 := hD.out.t.c2
  have hY := Lib.hid (BD.made hO.out f r 26)
  clear hbo hO
  generalize hBY : wY.heap.size = BY at *
  generalize wY.alloc (.cells #[.int .i64 f, .int .i64 r, .slice AY l.length cY] 26) = vY at *
  clear hBY
  have Y0 := hY.out.t.c0; have Y1 := hY.out.t.c1; have Y2 := hY.out.t.c2
  go_wp2_with fail
  go_at_call 12
  refine (pempty_z _ _ _ h hz.out).mono ?_
  rintro e wN ⟨AN, cN, rfl, hO⟩
  replace hO := Lib.hid hO
  go_upto_region 5 with fail
  have hbo := (hO.out.alloc (.cells #[.int .i64 0, .int .i64 0, .slice AN Z.length cN] 26)).below
  replace hb := Lib.hid (below_all hb.out hbo); replace hD := Lib.hid (hD.out.next hbo); replace D0 := hD.out.t.c0; replace D1 := hD.out.t.c1; replace D2 := hD.out.t.c2; replace hY := Lib.hid (hY.out.next hbo); replace Y0 := hY.out.t.c0; replace Y1 := hY.out.t.c1; replace Y2 := hY.out.t.c2
  have hN := Lib.hid (BD.made hO.out 0 0 26)
  clear hbo hO
  generalize hBN : wN.heap.size = BN at *
  generalize wN.alloc (.cells #[.int .i64 0, .int .i64 0, .slice AN Z.length cN] 26) = vN at *
  clear hBN
  have N0 := hN.out.t.c0; have N1 := hN.out.t.c1; have N2 := hN.out.t.c2
  go_wp2_with fail
  go_at_call 13
  refine (pput_z _ _ _ _ _ _ _ _ hD.out.p (by omega) hv.out hz.out).mono ?_
  rintro e wC ⟨AC, cC, rfl, hO⟩
  replace hO := Lib.hid hO
  go_upto_region 6 with fail
  have hbo := (hO.out.alloc (.cells #[.int .i64 0, .int .i64 0, .slice AC Z.length cC] 26)).below
  replace hb := Lib.hid (below_all hb.out hbo); replace hD := Lib.hid (hD.out.next hbo); replace D0 := hD.out.t.c0; replace D1 := hD.out.t.c1; replace D2 := hD.out.t.c2; replace hY := Lib.hid (hY.out.next hbo); replace Y0 := hY.out.t.c0; replace Y1 := hY.out.t.c1; replace Y2 := hY.out.t.c2; replace hN := Lib.hid (hN.out.next hbo); replace N0 := hN.out.t.c0; replace N1 := hN.out.t.c1; replace N2 := hN.out.t.c2
  have hC := Lib.hid (BD.made hO.out 0 0 26)
  clear hbo hO
  generalize hBC : wC.heap.size = BC at *
  generalize wC.alloc (.cells #[.int .i64 0, .int .i64 0, .slice AC Z.length cC] 26) = vC at *
  clear hBC
  have C0 := hC.out.t.c0; have C1 := hC.out.t.c1; have C2 := hC.out.t.c2
  go_wp2_with fail
  go_at_call 14
  refine (rsameb _ _ _ _ _ _ _ _ _ _ _ hY.out.p hD.out.p (by omega) (by omega)).mono ?_
  rintro e u1 ⟨rfl, hbw⟩
  rw [bEq_rfl]
  replace hb := Lib.hid (below_all hb.out hbw); replace hD := Lib.hid (hD.out.next hbw); replace D0 := hD.out.t.c0; replace D1 := hD.out.t.c1; replace D2 := hD.out.t.c2; replace hY := Lib.hid (hY.out.next hbw); replace Y0 := hY.out.t.c0; replace Y1 := hY.out.t.c1; replace Y2 := hY.out.t.c2; replace hN := Lib.hid (hN.out.next hbw); replace N0 := hN.out.t.c0; replace N1 := hN.out.t.c1; replace N2 := hN.out.t.c2; replace hC := Lib.hid (hC.out.next hbw); replace C0 := hC.out.t.c0; replace C1 := hC.out.t.c1; replace C2 := hC.out.t.c2
  clear hbw
  go_wp2_with fail
  go_at_call 15
  refine (rsize _ _ _).mono ?_
  rintro e u2 ⟨rfl, hbw⟩
  rw [h]
  replace hb := Lib.hid (below_all hb.out hbw); replace hD := Lib.hid (hD.out.next hbw); replace D0 := hD.out.t.c0; replace D1 := hD.out.t.c1; replace D2 := hD.out.t.c2; replace hY := Lib.hid (hY.out.next hbw); replace Y0 := hY.out.t.c0; replace Y1 := hY.out.t.c1; replace Y2 := hY.out.t.c2; replace hN := Lib.hid (hN.out.next hbw); replace N0 := hN.out.t.c0; replace N1 := hN.out.t.c1; replace N2 := hN.out.t.c2; replace hC := Lib.hid (hC.out.next hbw); replace C0 := hC.out.t.c0; replace C1 := hC.out.t.c1; replace C2 := hC.out.t.c2
  clear hbw
  go_wp2_with fail
  go_at_call 14
  refine (rsameb _ _ _ _ _ 0 0 none 0 [] _ hN.out.p (pcs_nil _ _ _) (by omega) (by simp)).mono ?_
  rintro e u3 ⟨rfl, hbw⟩
  rw [bEq_z hz.out]
  replace hb := Lib.hid (below_all hb.out hbw); replace hD := Lib.hid (hD.out.next hbw); replace D0 := hD.out.t.c0; replace D1 := hD.out.t.c1; replace D2 := hD.out.t.c2; replace hY := Lib.hid (hY.out.next hbw); replace Y0 := hY.out.t.c0; replace Y1 := hY.out.t.c1; replace Y2 := hY.out.t.c2; replace hN := Lib.hid (hN.out.next hbw); replace N0 := hN.out.t.c0; replace N1 := hN.out.t.c1; replace N2 := hN.out.t.c2; replace hC := Lib.hid (hC.out.next hbw); replace C0 := hC.out.t.c0; replace C1 := hC.out.t.c1; replace C2 := hC.out.t.c2
  clear hbw
  go_upto_region 14 with (first | (go_at_call 17; refine (rbvalid _ _ _ _ _ _ hD.out.p (by omega)).mono ?_; rintro e w' ⟨rfl, hbw⟩; rw [hv1.out]; replace hb := Lib.hid (below_all hb.out hbw); replace hD := Lib.hid (hD.out.next hbw); replace D0 := hD.out.t.c0; replace D1 := hD.out.t.c1; replace D2 := hD.out.t.c2; replace hY := Lib.hid (hY.out.next hbw); replace Y0 := hY.out.t.c0; replace Y1 := hY.out.t.c1; replace Y2 := hY.out.t.c2; replace hN := Lib.hid (hN.out.next hbw); replace N0 := hN.out.t.c0; replace N1 := hN.out.t.c1; replace N2 := hN.out.t.c2; replace hC := Lib.hid (hC.out.next hbw); replace C0 := hC.out.t.c0; replace C1 := hC.out.t.c1; replace C2 := hC.out.t.c2; clear hbw))
  go_wp2_with fail
  go_at_call 14
  refine (rsameb _ _ _ _ _ 0 0 none 0 [] _ hC.out.p (pcs_nil _ _ _) (by omega) (by simp)).mono ?_
  rintro e u4 ⟨rfl, hbw⟩
  rw [bEq_z hz.out]
  replace hb := Lib.hid (below_all hb.out hbw); replace hD := Lib.hid (hD.out.next hbw); replace D0 := hD.out.t.c0; replace D1 := hD.out.t.c1; replace D2 := hD.out.t.c2; replace hY := Lib.hid (hY.out.next hbw); replace Y0 := hY.out.t.c0; replace Y1 := hY.out.t.c1; replace Y2 := hY.out.t.c2; replace hN := Lib.hid (hN.out.next hbw); replace N0 := hN.out.t.c0; replace N1 := hN.out.t.c1; replace N2 := hN.out.t.c2; replace hC := Lib.hid (hC.out.next hbw); replace C0 := hC.out.t.c0; replace C1 := hC.out.t.c1; replace C2 := hC.out.t.c2
  clear hbw
  go_wp2_with (go_at_call 10; refine (known_3 _ (hEW.out _ hb.out)).mono ?_; rintro e w' ⟨rfl, hbw⟩; replace hb := Lib.hid (below_all hb.out hbw); clear hbw)
  go_ret
  exact ⟨rfl, hb.out⟩
theorem pput_n (f r : Int) (A : Option Addr) (c : Nat) (l : List Int) (k : Nat) (p : Int) (w : World) (hA : PcsAt w w.heap.size A l) (hl : l.length ≤ 64) (hv : bdB f r l = true) (hk : k < l.length) (hp : okP p = true) {L : List Int} (hL : l.set k p = L) : Calls Tryd.prog 13 #[bV f r A l.length c, .int .i64 (k : Int), .int .i8 p] w (NewBE f r L 0 w) := by subst hL; exact pput_yes f r A c l k p w hA hl hv hk hp
theorem rput_n (f r : Int) (A : Option Addr) (c : Nat) (l : List Int) (k : Nat) (p : Int) (w : World) (hA : PcsAt w w.heap.size A l) (hl : l.length ≤ 64) (hk : k < l.length) {L : List Int} (hL : l.set k p = L) : Calls Tryd.prog 20 #[bV f r A l.length c, .int .i64 (k : Int), .int .i8 p] w (NewB f r L w) := by subst hL; exact rput f r A c l k p w hA hl hk
set_option maxRecDepth 100000 in
set_option maxHeartbeats 1000000 in
theorem puts_b1 (f r : Int) (A : Option Addr) (c : Nat) (l : List Int) (k p : Int) (w : World) (hA : PcsAt w w.heap.size A l) (hE : EnvAt w) (hl7 : l.length ≤ 70) (h : szB f r = true) (hw1 : bdB f r l = false) : Calls Tryd.prog 3 #[bV f r A l.length c, .int .i64 k, .int .i8 p] w fun e w' => e = .returned (.bool true) ∧ Below w.heap.size w w' := by
  have hl : l.length ≤ maxLen := by unfold maxLen; omega
  have h7 := Lib.hid (decide_eq_true hl7)
  have hv1 := Lib.hid hw1
  clear hw1
  have hv : Hid (bdB f r l = false ∨ (bdB f r l = true ∧ sqB f r k = false) ∨ (bdB f r l = true ∧ sqB f r k = true ∧ okP p = false)) := .inl hv1.out
  obtain ⟨Z, hz⟩ : ∃ Z : List Int, [] = Z := ⟨_, rfl⟩
  have hZ1 : Z.length ≤ 100 := by subst hz; simp
  replace hz := Lib.hid hz
  obtain ⟨n, hn, hn1, hn9, _⟩ := size_nat h
  obtain ⟨L, hL⟩ : ∃ L : List Int, List.replicate n 0 = L := ⟨_, rfl⟩
  have hLl : L.length ≤ 64 := by rw [← hL, List.length_replicate]; exact hn9
  replace hL := Lib.hid hL
  replace hn := Lib.hid hn
  have hEW : Hid (∀ W, Below w.heap.size w W → EnvAt W) := fun W hb => hE.next hb
  have hD := Lib.hid (BD.first (f := f) (r := r) (c := c) hA 26)
  have hb : Hid (Below w.heap.size w (w.alloc (.cells #[.int .i64 f, .int .i64 r, .slice A l.length c] 26))) := (Below.refl _ _).alloc (Nat.le_refl _) _
  clear hA hE
  go_enter Tryd.func3, Tryd.ntmps3
  go_upto_region 1 with fail
  generalize hB : w.heap.size = B at hD
  generalize w.alloc (.cells #[.int .i64 f, .int .i64 r, .slice A l.length c] 26) = w1 at *
  have D0 := hD.out.t.c0; have D1 := hD.out.t.c1; have D2 := hD.out.t.c2
  go_upto_region 3 with (go_at_call 9; refine (csmall _ _ _ _ _ _ hl).mono ?_; rintro e w' ⟨rfl, hbw⟩; rw [h7.out]; replace hb := Lib.hid (below_all hb.out hbw); replace hD := Lib.hid (hD.out.next hbw); replace D0 := hD.out.t.c0; replace D1 := hD.out.t.c1; replace D2 := hD.out.t.c2; clear hbw)
  go_wp2_with fail
  go_at_call 11
  refine (rcopy _ _ _ _ _ _ hD.out.p (by omega)).mono ?_
  rintro e wY ⟨AY, cY, rfl, hO⟩
  replace hO := Lib.hid hO
  go_upto_region 4 with fail
  have hbo := (hO.out.alloc (.cells #[.int .i64 f, .int .i64 r, .slice AY l.length cY] 26)).below
  replace hb := Lib.hid (below_all hb.out hbo); replace hD := Lib.hid (hD.out.next hbo); replace D0 := hD.out.t.c0; replace D1 := hD.out.t.c1; replace D2 := hD.out.t.c2
  have hY := Lib.hid (BD.made hO.out f r 26)
  clear hbo hO
  generalize hBY : wY.heap.size = BY at *
  generalize wY.alloc (.cells #[.int .i64 f, .int .i64 r, .slice AY l.length cY] 26) = vY at *
  clear hBY
  have Y0 := hY.out.t.c0; have Y1 := hY.out.t.c1; have Y2 := hY.out.t.c2
  go_wp2_with fail
  go_at_call 12
  refine (pempty_n _ _ _ h n hn.out hn9 hL.out).mono ?_
  rintro e wN ⟨AN, cN, rfl, hO⟩
  replace hO := Lib.hid hO
  go_upto_region 5 with fail
  have hbo := (hO.out.alloc (.cells #[.int .i64 f, .int .i64 r, .slice AN L.length cN] 26)).below
  replace hb := Lib.hid (below_all hb.out hbo); replace hD := Lib.hid (hD.out.next hbo); replace D0 := hD.out.t.c0; replace D1 := hD.out.t.c1; replace D2 := hD.out.t.c2; replace hY := Lib.hid (hY.out.next hbo); replace Y0 := hY.out.t.c0; replace Y1 := hY.out.t.c1; replace Y2 := hY.out.t.c2
  have hN := Lib.hid (BD.made hO.out f r 26)
  clear hbo hO
  generalize hBN : wN.heap.size = BN at *
  generalize wN.alloc (.cells #[.int .i64 f, .int .i64 r, .slice AN L.length cN] 26) = vN at *
  clear hBN
  have N0 := hN.out.t.c0; have N1 := hN.out.t.c1; have N2 := hN.out.t.c2
  go_wp2_with fail
  go_at_call 13
  refine (pput_z _ _ _ _ _ _ _ _ hD.out.p (by omega) hv.out hz.out).mono ?_
  rintro e wC ⟨AC, cC, rfl, hO⟩
  replace hO := Lib.hid hO
  go_upto_region 6 with fail
  have hbo := (hO.out.alloc (.cells #[.int .i64 0, .int .i64 0, .slice AC Z.length cC] 26)).below
  replace hb := Lib.hid (below_all hb.out hbo); replace hD := Lib.hid (hD.out.next hbo); replace D0 := hD.out.t.c0; replace D1 := hD.out.t.c1; replace D2 := hD.out.t.c2; replace hY := Lib.hid (hY.out.next hbo); replace Y0 := hY.out.t.c0; replace Y1 := hY.out.t.c1; replace Y2 := hY.out.t.c2; replace hN := Lib.hid (hN.out.next hbo); replace N0 := hN.out.t.c0; replace N1 := hN.out.t.c1; replace N2 := hN.out.t.c2
  have hC := Lib.hid (BD.made hO.out 0 0 26)
  clear hbo hO
  generalize hBC : wC.heap.size = BC at *
  generalize wC.alloc (.cells #[.int .i64 0, .int .i64 0, .slice AC Z.length cC] 26) = vC at *
  clear hBC
  have C0 := hC.out.t.c0; have C1 := hC.out.t.c1; have C2 := hC.out.t.c2
  go_wp2_with fail
  go_at_call 14
  refine (rsameb _ _ _ _ _ _ _ _ _ _ _ hY.out.p hD.out.p (by omega) (by omega)).mono ?_
  rintro e u1 ⟨rfl, hbw⟩
  rw [bEq_rfl]
  replace hb := Lib.hid (below_all hb.out hbw); replace hD := Lib.hid (hD.out.next hbw); replace D0 := hD.out.t.c0; replace D1 := hD.out.t.c1; replace D2 := hD.out.t.c2; replace hY := Lib.hid (hY.out.next hbw); replace Y0 := hY.out.t.c0; replace Y1 := hY.out.t.c1; replace Y2 := hY.out.t.c2; replace hN := Lib.hid (hN.out.next hbw); replace N0 := hN.out.t.c0; replace N1 := hN.out.t.c1; replace N2 := hN.out.t.c2; replace hC := Lib.hid (hC.out.next hbw); replace C0 := hC.out.t.c0; replace C1 := hC.out.t.c1; replace C2 := hC.out.t.c2
  clear hbw
  go_wp2_with fail
  go_at_call 15
  refine (rsize _ _ _).mono ?_
  rintro e u2 ⟨rfl, hbw⟩
  rw [h]
  replace hb := Lib.hid (below_all hb.out hbw); replace hD := Lib.hid (hD.out.next hbw); replace D0 := hD.out.t.c0; replace D1 := hD.out.t.c1; replace D2 := hD.out.t.c2; replace hY := Lib.hid (hY.out.next hbw); replace Y0 := hY.out.t.c0; replace Y1 := hY.out.t.c1; replace Y2 := hY.out.t.c2; replace hN := Lib.hid (hN.out.next hbw); replace N0 := hN.out.t.c0; replace N1 := hN.out.t.c1; replace N2 := hN.out.t.c2; replace hC := Lib.hid (hC.out.next hbw); replace C0 := hC.out.t.c0; replace C1 := hC.out.t.c1; replace C2 := hC.out.t.c2
  clear hbw
  go_upto_region 11 with fail
  go_region_held3 (fun w' => w'.cell? ⟨B, 0, none⟩ = some (.int .i64 f) ∧ w'.cell? ⟨B, 1, none⟩ = some (.int .i64 r) ∧ w'.cell? ⟨BN, 0, none⟩ = some (.int .i64 f) ∧ w'.cell? ⟨BN, 1, none⟩ = some (.int .i64 r) ∧ w'.cell? ⟨BN, 2, none⟩ = some (.slice AN L.length cN)) (exact ⟨hD.out.t.c0, hD.out.t.c1, hN.out.t.c0, hN.out.t.c1, hN.out.t.c2⟩)
    (first
    | (go_at_call 16; refine (rempty_n _ _ _ h n hn.out hn9 hL.out).mono ?_; rintro e u5 ⟨A5, c5, rfl, hO5⟩; have hp5 := Lib.hid (RecAt.of_own qEnc_len rfl hO5.own); have hb5 := hO5.below; clear hO5; replace hb : Hid (Below w.heap.size w u5) := (by first | exact below_all hb.out hb5 | exact below_all hb.out (undrew hb5)); replace hD : Hid (BD f r l A c B u5) := (by first | exact hD.out.next hb5 | exact hD.out.next (undrew hb5)); replace D0 := hD.out.t.c0; replace D1 := hD.out.t.c1; replace D2 := hD.out.t.c2; replace hY : Hid (BD f r l AY cY BY u5) := (by first | exact hY.out.next hb5 | exact hY.out.next (undrew hb5)); replace Y0 := hY.out.t.c0; replace Y1 := hY.out.t.c1; replace Y2 := hY.out.t.c2; replace hN : Hid (BD f r L AN cN BN u5) := (by first | exact hN.out.next hb5 | exact hN.out.next (undrew hb5)); replace N0 := hN.out.t.c0; replace N1 := hN.out.t.c1; replace N2 := hN.out.t.c2; replace hC : Hid (BD 0 0 Z AC cC BC u5) := (by first | exact hC.out.next hb5 | exact hC.out.next (undrew hb5)); replace C0 := hC.out.t.c0; replace C1 := hC.out.t.c1; replace C2 := hC.out.t.c2; clear hb5)
    | (go_at_call 14; refine (rsameb _ _ _ _ _ _ _ _ _ _ _ hN.out.p hp5.out (by omega) (by omega)).mono ?_; rintro e u6 ⟨rfl, hb5⟩; rw [bEq_rfl]; replace hb : Hid (Below w.heap.size w u6) := (by first | exact below_all hb.out hb5 | exact below_all hb.out (undrew hb5)); replace hD : Hid (BD f r l A c B u6) := (by first | exact hD.out.next hb5 | exact hD.out.next (undrew hb5)); replace D0 := hD.out.t.c0; replace D1 := hD.out.t.c1; replace D2 := hD.out.t.c2; replace hY : Hid (BD f r l AY cY BY u6) := (by first | exact hY.out.next hb5 | exact hY.out.next (undrew hb5)); replace Y0 := hY.out.t.c0; replace Y1 := hY.out.t.c1; replace Y2 := hY.out.t.c2; replace hN : Hid (BD f r L AN cN BN u6) := (by first | exact hN.out.next hb5 | exact hN.out.next (undrew hb5)); replace N0 := hN.out.t.c0; replace N1 := hN.out.t.c1; replace N2 := hN.out.t.c2; replace hC : Hid (BD 0 0 Z AC cC BC u6) := (by first | exact hC.out.next hb5 | exact hC.out.next (undrew hb5)); replace C0 := hC.out.t.c0; replace C1 := hC.out.t.c1; replace C2 := hC.out.t.c2; clear hb5))
  all_goals
    go_upto_region 14 with (first | (go_at_call 17; refine (rbvalid _ _ _ _ _ _ hD.out.p (by omega)).mono ?_; rintro e w' ⟨rfl, hbw⟩; rw [hv1.out]; replace hb := Lib.hid (below_all hb.out hbw); replace hD := Lib.hid (hD.out.next hbw); replace D0 := hD.out.t.c0; replace D1 := hD.out.t.c1; replace D2 := hD.out.t.c2; replace hY := Lib.hid (hY.out.next hbw); replace Y0 := hY.out.t.c0; replace Y1 := hY.out.t.c1; replace Y2 := hY.out.t.c2; replace hN := Lib.hid (hN.out.next hbw); replace N0 := hN.out.t.c0; replace N1 := hN.out.t.c1; replace N2 := hN.out.t.c2; replace hC := Lib.hid (hC.out.next hbw); replace C0 := hC.out.t.c0; replace C1 := hC.out.t.c1; replace C2 := hC.out.t.c2; clear hbw))
    go_wp2_with fail
    go_at_call 14
    refine (rsameb _ _ _ _ _ 0 0 none 0 [] _ hC.out.p (pcs_nil _ _ _) (by omega) (by simp)).mono ?_
    rintro e u4 ⟨rfl, hbw⟩
    rw [bEq_z hz.out]
    replace hb := Lib.hid (below_all hb.out hbw); replace hD := Lib.hid (hD.out.next hbw); replace D0 := hD.out.t.c0; replace D1 := hD.out.t.c1; replace D2 := hD.out.t.c2; replace hY := Lib.hid (hY.out.next hbw); replace Y0 := hY.out.t.c0; replace Y1 := hY.out.t.c1; replace Y2 := hY.out.t.c2; replace hN := Lib.hid (hN.out.next hbw); replace N0 := hN.out.t.c0; replace N1 := hN.out.t.c1; replace N2 := hN.out.t.c2; replace hC := Lib.hid (hC.out.next hbw); replace C0 := hC.out.t.c0; replace C1 := hC.out.t.c1; replace C2 := hC.out.t.c2
    clear hbw
    go_wp2_with (go_at_call 10; refine (known_3 _ (hEW.out _ hb.out)).mono ?_; rintro e w' ⟨rfl, hbw⟩; replace hb := Lib.hid (below_all hb.out hbw); clear hbw)
    go_ret
    exact ⟨rfl, hb.out⟩
set_option maxRecDepth 100000 in
set_option maxHeartbeats 1000000 in
theorem puts_b2 (f r : Int) (A : Option Addr) (c : Nat) (l : List Int) (k p : Int) (w : World) (hA : PcsAt w w.heap.size A l) (hE : EnvAt w) (hl7 : l.length ≤ 70) (h : szB f r = true) (hw1 : bdB f r l = true) (hw2 : sqB f r k = false) : Calls Tryd.prog 3 #[bV f r A l.length c, .int .i64 k, .int .i8 p] w fun e w' => e = .returned (.bool true) ∧ Below w.heap.size w w' := by
  have hl : l.length ≤ maxLen := by unfold maxLen; omega
  have h7 := Lib.hid (decide_eq_true hl7)
  have hv1 := Lib.hid hw1
  clear hw1
  have hv2 := Lib.hid hw2
  clear hw2
  have hv : Hid (bdB f r l = false ∨ (bdB f r l = true ∧ sqB f r k = false) ∨ (bdB f r l = true ∧ sqB f r k = true ∧ okP p = false)) := .inr (.inl ⟨hv1.out, hv2.out⟩)
  obtain ⟨Z, hz⟩ : ∃ Z : List Int, [] = Z := ⟨_, rfl⟩
  have hZ1 : Z.length ≤ 100 := by subst hz; simp
  replace hz := Lib.hid hz
  obtain ⟨n, hn, hn1, hn9, _⟩ := size_nat h
  obtain ⟨L, hL⟩ : ∃ L : List Int, List.replicate n 0 = L := ⟨_, rfl⟩
  have hLl : L.length ≤ 64 := by rw [← hL, List.length_replicate]; exact hn9
  replace hL := Lib.hid hL
  replace hn := Lib.hid hn
  have hEW : Hid (∀ W, Below w.heap.size w W → EnvAt W) := fun W hb => hE.next hb
  have hD := Lib.hid (BD.first (f := f) (r := r) (c := c) hA 26)
  have hb : Hid (Below w.heap.size w (w.alloc (.cells #[.int .i64 f, .int .i64 r, .slice A l.length c] 26))) := (Below.refl _ _).alloc (Nat.le_refl _) _
  clear hA hE
  go_enter Tryd.func3, Tryd.ntmps3
  go_upto_region 1 with fail
  generalize hB : w.heap.size = B at hD
  generalize w.alloc (.cells #[.int .i64 f, .int .i64 r, .slice A l.length c] 26) = w1 at *
  have D0 := hD.out.t.c0; have D1 := hD.out.t.c1; have D2 := hD.out.t.c2
  go_upto_region 3 with (go_at_call 9; refine (csmall _ _ _ _ _ _ hl).mono ?_; rintro e w' ⟨rfl, hbw⟩; rw [h7.out]; replace hb := Lib.hid (below_all hb.out hbw); replace hD := Lib.hid (hD.out.next hbw); replace D0 := hD.out.t.c0; replace D1 := hD.out.t.c1; replace D2 := hD.out.t.c2; clear hbw)
  go_wp2_with fail
  go_at_call 11
  refine (rcopy _ _ _ _ _ _ hD.out.p (by omega)).mono ?_
  rintro e wY ⟨AY, cY, rfl, hO⟩
  replace hO := Lib.hid hO
  go_upto_region 4 with fail
  have hbo := (hO.out.alloc (.cells #[.int .i64 f, .int .i64 r, .slice AY l.length cY] 26)).below
  replace hb := Lib.hid (below_all hb.out hbo); replace hD := Lib.hid (hD.out.next hbo); replace D0 := hD.out.t.c0; replace D1 := hD.out.t.c1; replace D2 := hD.out.t.c2
  have hY := Lib.hid (BD.made hO.out f r 26)
  clear hbo hO
  generalize hBY : wY.heap.size = BY at *
  generalize wY.alloc (.cells #[.int .i64 f, .int .i64 r, .slice AY l.length cY] 26) = vY at *
  clear hBY
  have Y0 := hY.out.t.c0; have Y1 := hY.out.t.c1; have Y2 := hY.out.t.c2
  go_wp2_with fail
  go_at_call 12
  refine (pempty_n _ _ _ h n hn.out hn9 hL.out).mono ?_
  rintro e wN ⟨AN, cN, rfl, hO⟩
  replace hO := Lib.hid hO
  go_upto_region 5 with fail
  have hbo := (hO.out.alloc (.cells #[.int .i64 f, .int .i64 r, .slice AN L.length cN] 26)).below
  replace hb := Lib.hid (below_all hb.out hbo); replace hD := Lib.hid (hD.out.next hbo); replace D0 := hD.out.t.c0; replace D1 := hD.out.t.c1; replace D2 := hD.out.t.c2; replace hY := Lib.hid (hY.out.next hbo); replace Y0 := hY.out.t.c0; replace Y1 := hY.out.t.c1; replace Y2 := hY.out.t.c2
  have hN := Lib.hid (BD.made hO.out f r 26)
  clear hbo hO
  generalize hBN : wN.heap.size = BN at *
  generalize wN.alloc (.cells #[.int .i64 f, .int .i64 r, .slice AN L.length cN] 26) = vN at *
  clear hBN
  have N0 := hN.out.t.c0; have N1 := hN.out.t.c1; have N2 := hN.out.t.c2
  go_wp2_with fail
  go_at_call 13
  refine (pput_z _ _ _ _ _ _ _ _ hD.out.p (by omega) hv.out hz.out).mono ?_
  rintro e wC ⟨AC, cC, rfl, hO⟩
  replace hO := Lib.hid hO
  go_upto_region 6 with fail
  have hbo := (hO.out.alloc (.cells #[.int .i64 0, .int .i64 0, .slice AC Z.length cC] 26)).below
  replace hb := Lib.hid (below_all hb.out hbo); replace hD := Lib.hid (hD.out.next hbo); replace D0 := hD.out.t.c0; replace D1 := hD.out.t.c1; replace D2 := hD.out.t.c2; replace hY := Lib.hid (hY.out.next hbo); replace Y0 := hY.out.t.c0; replace Y1 := hY.out.t.c1; replace Y2 := hY.out.t.c2; replace hN := Lib.hid (hN.out.next hbo); replace N0 := hN.out.t.c0; replace N1 := hN.out.t.c1; replace N2 := hN.out.t.c2
  have hC := Lib.hid (BD.made hO.out 0 0 26)
  clear hbo hO
  generalize hBC : wC.heap.size = BC at *
  generalize wC.alloc (.cells #[.int .i64 0, .int .i64 0, .slice AC Z.length cC] 26) = vC at *
  clear hBC
  have C0 := hC.out.t.c0; have C1 := hC.out.t.c1; have C2 := hC.out.t.c2
  go_wp2_with fail
  go_at_call 14
  refine (rsameb _ _ _ _ _ _ _ _ _ _ _ hY.out.p hD.out.p (by omega) (by omega)).mono ?_
  rintro e u1 ⟨rfl, hbw⟩
  rw [bEq_rfl]
  replace hb := Lib.hid (below_all hb.out hbw); replace hD := Lib.hid (hD.out.next hbw); replace D0 := hD.out.t.c0; replace D1 := hD.out.t.c1; replace D2 := hD.out.t.c2; replace hY := Lib.hid (hY.out.next hbw); replace Y0 := hY.out.t.c0; replace Y1 := hY.out.t.c1; replace Y2 := hY.out.t.c2; replace hN := Lib.hid (hN.out.next hbw); replace N0 := hN.out.t.c0; replace N1 := hN.out.t.c1; replace N2 := hN.out.t.c2; replace hC := Lib.hid (hC.out.next hbw); replace C0 := hC.out.t.c0; replace C1 := hC.out.t.c1; replace C2 := hC.out.t.c2
  clear hbw
  go_wp2_with fail
  go_at_call 15
  refine (rsize _ _ _).mono ?_
  rintro e u2 ⟨rfl, hbw⟩
  rw [h]
  replace hb := Lib.hid (below_all hb.out hbw); replace hD := Lib.hid (hD.out.next hbw); replace D0 := hD.out.t.c0; replace D1 := hD.out.t.c1; replace D2 := hD.out.t.c2; replace hY := Lib.hid (hY.out.next hbw); replace Y0 := hY.out.t.c0; replace Y1 := hY.out.t.c1; replace Y2 := hY.out.t.c2; replace hN := Lib.hid (hN.out.next hbw); replace N0 := hN.out.t.c0; replace N1 := hN.out.t.c1; replace N2 := hN.out.t.c2; replace hC := Lib.hid (hC.out.next hbw); replace C0 := hC.out.t.c0; replace C1 := hC.out.t.c1; replace C2 := hC.out.t.c2
  clear hbw
  go_upto_region 11 with fail
  go_region_held3 (fun w' => w'.cell? ⟨B, 0, none⟩ = some (.int .i64 f) ∧ w'.cell? ⟨B, 1, none⟩ = some (.int .i64 r) ∧ w'.cell? ⟨BN, 0, none⟩ = some (.int .i64 f) ∧ w'.cell? ⟨BN, 1, none⟩ = some (.int .i64 r) ∧ w'.cell? ⟨BN, 2, none⟩ = some (.slice AN L.length cN)) (exact ⟨hD.out.t.c0, hD.out.t.c1, hN.out.t.c0, hN.out.t.c1, hN.out.t.c2⟩)
    (first
    | (go_at_call 16; refine (rempty_n _ _ _ h n hn.out hn9 hL.out).mono ?_; rintro e u5 ⟨A5, c5, rfl, hO5⟩; have hp5 := Lib.hid (RecAt.of_own qEnc_len rfl hO5.own); have hb5 := hO5.below; clear hO5; replace hb : Hid (Below w.heap.size w u5) := (by first | exact below_all hb.out hb5 | exact below_all hb.out (undrew hb5)); replace hD : Hid (BD f r l A c B u5) := (by first | exact hD.out.next hb5 | exact hD.out.next (undrew hb5)); replace D0 := hD.out.t.c0; replace D1 := hD.out.t.c1; replace D2 := hD.out.t.c2; replace hY : Hid (BD f r l AY cY BY u5) := (by first | exact hY.out.next hb5 | exact hY.out.next (undrew hb5)); replace Y0 := hY.out.t.c0; replace Y1 := hY.out.t.c1; replace Y2 := hY.out.t.c2; replace hN : Hid (BD f r L AN cN BN u5) := (by first | exact hN.out.next hb5 | exact hN.out.next (undrew hb5)); replace N0 := hN.out.t.c0; replace N1 := hN.out.t.c1; replace N2 := hN.out.t.c2; replace hC : Hid (BD 0 0 Z AC cC BC u5) := (by first | exact hC.out.next hb5 | exact hC.out.next (undrew hb5)); replace C0 := hC.out.t.c0; replace C1 := hC.out.t.c1; replace C2 := hC.out.t.c2; clear hb5)
    | (go_at_call 14; refine (rsameb _ _ _ _ _ _ _ _ _ _ _ hN.out.p hp5.out (by omega) (by omega)).mono ?_; rintro e u6 ⟨rfl, hb5⟩; rw [bEq_rfl]; replace hb : Hid (Below w.heap.size w u6) := (by first | exact below_all hb.out hb5 | exact below_all hb.out (undrew hb5)); replace hD : Hid (BD f r l A c B u6) := (by first | exact hD.out.next hb5 | exact hD.out.next (undrew hb5)); replace D0 := hD.out.t.c0; replace D1 := hD.out.t.c1; replace D2 := hD.out.t.c2; replace hY : Hid (BD f r l AY cY BY u6) := (by first | exact hY.out.next hb5 | exact hY.out.next (undrew hb5)); replace Y0 := hY.out.t.c0; replace Y1 := hY.out.t.c1; replace Y2 := hY.out.t.c2; replace hN : Hid (BD f r L AN cN BN u6) := (by first | exact hN.out.next hb5 | exact hN.out.next (undrew hb5)); replace N0 := hN.out.t.c0; replace N1 := hN.out.t.c1; replace N2 := hN.out.t.c2; replace hC : Hid (BD 0 0 Z AC cC BC u6) := (by first | exact hC.out.next hb5 | exact hC.out.next (undrew hb5)); replace C0 := hC.out.t.c0; replace C1 := hC.out.t.c1; replace C2 := hC.out.t.c2; clear hb5))
  all_goals
    go_upto_region 14 with (first | (go_at_call 17; refine (rbvalid _ _ _ _ _ _ hD.out.p (by omega)).mono ?_; rintro e w' ⟨rfl, hbw⟩; rw [hv1.out]; replace hb := Lib.hid (below_all hb.out hbw); replace hD := Lib.hid (hD.out.next hbw); replace D0 := hD.out.t.c0; replace D1 := hD.out.t.c1; replace D2 := hD.out.t.c2; replace hY := Lib.hid (hY.out.next hbw); replace Y0 := hY.out.t.c0; replace Y1 := hY.out.t.c1; replace Y2 := hY.out.t.c2; replace hN := Lib.hid (hN.out.next hbw); replace N0 := hN.out.t.c0; replace N1 := hN.out.t.c1; replace N2 := hN.out.t.c2; replace hC := Lib.hid (hC.out.next hbw); replace C0 := hC.out.t.c0; replace C1 := hC.out.t.c1; replace C2 := hC.out.t.c2; clear hbw) | (go_at_call 18; refine (rvalidsq _ _ _ _).mono ?_; rintro e w' ⟨rfl, hbw⟩; rw [hv2.out]; replace hb := Lib.hid (below_all hb.out hbw); replace hD := Lib.hid (hD.out.next hbw); replace D0 := hD.out.t.c0; replace D1 := hD.out.t.c1; replace D2 := hD.out.t.c2; replace hY := Lib.hid (hY.out.next hbw); replace Y0 := hY.out.t.c0; replace Y1 := hY.out.t.c1; replace Y2 := hY.out.t.c2; replace hN := Lib.hid (hN.out.next hbw); replace N0 := hN.out.t.c0; replace N1 := hN.out.t.c1; replace N2 := hN.out.t.c2; replace hC := Lib.hid (hC.out.next hbw); replace C0 := hC.out.t.c0; replace C1 := hC.out.t.c1; replace C2 := hC.out.t.c2; clear hbw))
    go_wp2_with fail
    go_at_call 14
    refine (rsameb _ _ _ _ _ 0 0 none 0 [] _ hC.out.p (pcs_nil _ _ _) (by omega) (by simp)).mono ?_
    rintro e u4 ⟨rfl, hbw⟩
    rw [bEq_z hz.out]
    replace hb := Lib.hid (below_all hb.out hbw); replace hD := Lib.hid (hD.out.next hbw); replace D0 := hD.out.t.c0; replace D1 := hD.out.t.c1; replace D2 := hD.out.t.c2; replace hY := Lib.hid (hY.out.next hbw); replace Y0 := hY.out.t.c0; replace Y1 := hY.out.t.c1; replace Y2 := hY.out.t.c2; replace hN := Lib.hid (hN.out.next hbw); replace N0 := hN.out.t.c0; replace N1 := hN.out.t.c1; replace N2 := hN.out.t.c2; replace hC := Lib.hid (hC.out.next hbw); replace C0 := hC.out.t.c0; replace C1 := hC.out.t.c1; replace C2 := hC.out.t.c2
    clear hbw
    go_wp2_with (go_at_call 10; refine (known_3 _ (hEW.out _ hb.out)).mono ?_; rintro e w' ⟨rfl, hbw⟩; replace hb := Lib.hid (below_all hb.out hbw); clear hbw)
    go_ret
    exact ⟨rfl, hb.out⟩
set_option maxRecDepth 100000 in
set_option maxHeartbeats 1000000 in
theorem puts_b3 (f r : Int) (A : Option Addr) (c : Nat) (l : List Int) (k p : Int) (w : World) (hA : PcsAt w w.heap.size A l) (hE : EnvAt w) (hl7 : l.length ≤ 70) (h : szB f r = true) (hw1 : bdB f r l = true) (hw2 : sqB f r k = true) (hw3 : okP p = false) : Calls Tryd.prog 3 #[bV f r A l.length c, .int .i64 k, .int .i8 p] w fun e w' => e = .returned (.bool true) ∧ Below w.heap.size w w' := by
  have hl : l.length ≤ maxLen := by unfold maxLen; omega
  have h7 := Lib.hid (decide_eq_true hl7)
  have hv1 := Lib.hid hw1
  clear hw1
  have hv2 := Lib.hid hw2
  clear hw2
  have hv3 := Lib.hid hw3
  clear hw3
  have hv : Hid (bdB f r l = false ∨ (bdB f r l = true ∧ sqB f r k = false) ∨ (bdB f r l = true ∧ sqB f r k = true ∧ okP p = false)) := .inr (.inr ⟨hv1.out, hv2.out, hv3.out⟩)
  obtain ⟨Z, hz⟩ : ∃ Z : List Int, [] = Z := ⟨_, rfl⟩
  have hZ1 : Z.length ≤ 100 := by subst hz; simp
  replace hz := Lib.hid hz
  obtain ⟨n, hn, hn1, hn9, _⟩ := size_nat h
  obtain ⟨L, hL⟩ : ∃ L : List Int, List.replicate n 0 = L := ⟨_, rfl⟩
  have hLl : L.length ≤ 64 := by rw [← hL, List.length_replicate]; exact hn9
  replace hL := Lib.hid hL
  replace hn := Lib.hid hn
  have hEW : Hid (∀ W, Below w.heap.size w W → EnvAt W) := fun W hb => hE.next hb
  have hD := Lib.hid (BD.first (f := f) (r := r) (c := c) hA 26)
  have hb : Hid (Below w.heap.size w (w.alloc (.cells #[.int .i64 f, .int .i64 r, .slice A l.length c] 26))) := (Below.refl _ _).alloc (Nat.le_refl _) _
  clear hA hE
  go_enter Tryd.func3, Tryd.ntmps3
  go_upto_region 1 with fail
  generalize hB : w.heap.size = B at hD
  generalize w.alloc (.cells #[.int .i64 f, .int .i64 r, .slice A l.length c] 26) = w1 at *
  have D0 := hD.out.t.c0; have D1 := hD.out.t.c1; have D2 := hD.out.t.c2
  go_upto_region 3 with (go_at_call 9; refine (csmall _ _ _ _ _ _ hl).mono ?_; rintro e w' ⟨rfl, hbw⟩; rw [h7.out]; replace hb := Lib.hid (below_all hb.out hbw); replace hD := Lib.hid (hD.out.next hbw); replace D0 := hD.out.t.c0; replace D1 := hD.out.t.c1; replace D2 := hD.out.t.c2; clear hbw)
  go_wp2_with fail
  go_at_call 11
  refine (rcopy _ _ _ _ _ _ hD.out.p (by omega)).mono ?_
  rintro e wY ⟨AY, cY, rfl, hO⟩
  replace hO := Lib.hid hO
  go_upto_region 4 with fail
  have hbo := (hO.out.alloc (.cells #[.int .i64 f, .int .i64 r, .slice AY l.length cY] 26)).below
  replace hb := Lib.hid (below_all hb.out hbo); replace hD := Lib.hid (hD.out.next hbo); replace D0 := hD.out.t.c0; replace D1 := hD.out.t.c1; replace D2 := hD.out.t.c2
  have hY := Lib.hid (BD.made hO.out f r 26)
  clear hbo hO
  generalize hBY : wY.heap.size = BY at *
  generalize wY.alloc (.cells #[.int .i64 f, .int .i64 r, .slice AY l.length cY] 26) = vY at *
  clear hBY
  have Y0 := hY.out.t.c0; have Y1 := hY.out.t.c1; have Y2 := hY.out.t.c2
  go_wp2_with fail
  go_at_call 12
  refine (pempty_n _ _ _ h n hn.out hn9 hL.out).mono ?_
  rintro e wN ⟨AN, cN, rfl, hO⟩
  replace hO := Lib.hid hO
  go_upto_region 5 with fail
  have hbo := (hO.out.alloc (.cells #[.int .i64 f, .int .i64 r, .slice AN L.length cN] 26)).below
  replace hb := Lib.hid (below_all hb.out hbo); replace hD := Lib.hid (hD.out.next hbo); replace D0 := hD.out.t.c0; replace D1 := hD.out.t.c1; replace D2 := hD.out.t.c2; replace hY := Lib.hid (hY.out.next hbo); replace Y0 := hY.out.t.c0; replace Y1 := hY.out.t.c1; replace Y2 := hY.out.t.c2
  have hN := Lib.hid (BD.made hO.out f r 26)
  clear hbo hO
  generalize hBN : wN.heap.size = BN at *
  generalize wN.alloc (.cells #[.int .i64 f, .int .i64 r, .slice AN L.length cN] 26) = vN at *
  clear hBN
  have N0 := hN.out.t.c0; have N1 := hN.out.t.c1; have N2 := hN.out.t.c2
  go_wp2_with fail
  go_at_call 13
  refine (pput_z _ _ _ _ _ _ _ _ hD.out.p (by omega) hv.out hz.out).mono ?_
  rintro e wC ⟨AC, cC, rfl, hO⟩
  replace hO := Lib.hid hO
  go_upto_region 6 with fail
  have hbo := (hO.out.alloc (.cells #[.int .i64 0, .int .i64 0, .slice AC Z.length cC] 26)).below
  replace hb := Lib.hid (below_all hb.out hbo); replace hD := Lib.hid (hD.out.next hbo); replace D0 := hD.out.t.c0; replace D1 := hD.out.t.c1; replace D2 := hD.out.t.c2; replace hY := Lib.hid (hY.out.next hbo); replace Y0 := hY.out.t.c0; replace Y1 := hY.out.t.c1; replace Y2 := hY.out.t.c2; replace hN := Lib.hid (hN.out.next hbo); replace N0 := hN.out.t.c0; replace N1 := hN.out.t.c1; replace N2 := hN.out.t.c2
  have hC := Lib.hid (BD.made hO.out 0 0 26)
  clear hbo hO
  generalize hBC : wC.heap.size = BC at *
  generalize wC.alloc (.cells #[.int .i64 0, .int .i64 0, .slice AC Z.length cC] 26) = vC at *
  clear hBC
  have C0 := hC.out.t.c0; have C1 := hC.out.t.c1; have C2 := hC.out.t.c2
  go_wp2_with fail
  go_at_call 14
  refine (rsameb _ _ _ _ _ _ _ _ _ _ _ hY.out.p hD.out.p (by omega) (by omega)).mono ?_
  rintro e u1 ⟨rfl, hbw⟩
  rw [bEq_rfl]
  replace hb := Lib.hid (below_all hb.out hbw); replace hD := Lib.hid (hD.out.next hbw); replace D0 := hD.out.t.c0; replace D1 := hD.out.t.c1; replace D2 := hD.out.t.c2; replace hY := Lib.hid (hY.out.next hbw); replace Y0 := hY.out.t.c0; replace Y1 := hY.out.t.c1; replace Y2 := hY.out.t.c2; replace hN := Lib.hid (hN.out.next hbw); replace N0 := hN.out.t.c0; replace N1 := hN.out.t.c1; replace N2 := hN.out.t.c2; replace hC := Lib.hid (hC.out.next hbw); replace C0 := hC.out.t.c0; replace C1 := hC.out.t.c1; replace C2 := hC.out.t.c2
  clear hbw
  go_wp2_with fail
  go_at_call 15
  refine (rsize _ _ _).mono ?_
  rintro e u2 ⟨rfl, hbw⟩
  rw [h]
  replace hb := Lib.hid (below_all hb.out hbw); replace hD := Lib.hid (hD.out.next hbw); replace D0 := hD.out.t.c0; replace D1 := hD.out.t.c1; replace D2 := hD.out.t.c2; replace hY := Lib.hid (hY.out.next hbw); replace Y0 := hY.out.t.c0; replace Y1 := hY.out.t.c1; replace Y2 := hY.out.t.c2; replace hN := Lib.hid (hN.out.next hbw); replace N0 := hN.out.t.c0; replace N1 := hN.out.t.c1; replace N2 := hN.out.t.c2; replace hC := Lib.hid (hC.out.next hbw); replace C0 := hC.out.t.c0; replace C1 := hC.out.t.c1; replace C2 := hC.out.t.c2
  clear hbw
  go_upto_region 11 with fail
  go_region_held3 (fun w' => w'.cell? ⟨B, 0, none⟩ = some (.int .i64 f) ∧ w'.cell? ⟨B, 1, none⟩ = some (.int .i64 r) ∧ w'.cell? ⟨BN, 0, none⟩ = some (.int .i64 f) ∧ w'.cell? ⟨BN, 1, none⟩ = some (.int .i64 r) ∧ w'.cell? ⟨BN, 2, none⟩ = some (.slice AN L.length cN)) (exact ⟨hD.out.t.c0, hD.out.t.c1, hN.out.t.c0, hN.out.t.c1, hN.out.t.c2⟩)
    (first
    | (go_at_call 16; refine (rempty_n _ _ _ h n hn.out hn9 hL.out).mono ?_; rintro e u5 ⟨A5, c5, rfl, hO5⟩; have hp5 := Lib.hid (RecAt.of_own qEnc_len rfl hO5.own); have hb5 := hO5.below; clear hO5; replace hb : Hid (Below w.heap.size w u5) := (by first | exact below_all hb.out hb5 | exact below_all hb.out (undrew hb5)); replace hD : Hid (BD f r l A c B u5) := (by first | exact hD.out.next hb5 | exact hD.out.next (undrew hb5)); replace D0 := hD.out.t.c0; replace D1 := hD.out.t.c1; replace D2 := hD.out.t.c2; replace hY : Hid (BD f r l AY cY BY u5) := (by first | exact hY.out.next hb5 | exact hY.out.next (undrew hb5)); replace Y0 := hY.out.t.c0; replace Y1 := hY.out.t.c1; replace Y2 := hY.out.t.c2; replace hN : Hid (BD f r L AN cN BN u5) := (by first | exact hN.out.next hb5 | exact hN.out.next (undrew hb5)); replace N0 := hN.out.t.c0; replace N1 := hN.out.t.c1; replace N2 := hN.out.t.c2; replace hC : Hid (BD 0 0 Z AC cC BC u5) := (by first | exact hC.out.next hb5 | exact hC.out.next (undrew hb5)); replace C0 := hC.out.t.c0; replace C1 := hC.out.t.c1; replace C2 := hC.out.t.c2; clear hb5)
    | (go_at_call 14; refine (rsameb _ _ _ _ _ _ _ _ _ _ _ hN.out.p hp5.out (by omega) (by omega)).mono ?_; rintro e u6 ⟨rfl, hb5⟩; rw [bEq_rfl]; replace hb : Hid (Below w.heap.size w u6) := (by first | exact below_all hb.out hb5 | exact below_all hb.out (undrew hb5)); replace hD : Hid (BD f r l A c B u6) := (by first | exact hD.out.next hb5 | exact hD.out.next (undrew hb5)); replace D0 := hD.out.t.c0; replace D1 := hD.out.t.c1; replace D2 := hD.out.t.c2; replace hY : Hid (BD f r l AY cY BY u6) := (by first | exact hY.out.next hb5 | exact hY.out.next (undrew hb5)); replace Y0 := hY.out.t.c0; replace Y1 := hY.out.t.c1; replace Y2 := hY.out.t.c2; replace hN : Hid (BD f r L AN cN BN u6) := (by first | exact hN.out.next hb5 | exact hN.out.next (undrew hb5)); replace N0 := hN.out.t.c0; replace N1 := hN.out.t.c1; replace N2 := hN.out.t.c2; replace hC : Hid (BD 0 0 Z AC cC BC u6) := (by first | exact hC.out.next hb5 | exact hC.out.next (undrew hb5)); replace C0 := hC.out.t.c0; replace C1 := hC.out.t.c1; replace C2 := hC.out.t.c2; clear hb5))
  all_goals
    go_upto_region 14 with (first | (go_at_call 17; refine (rbvalid _ _ _ _ _ _ hD.out.p (by omega)).mono ?_; rintro e w' ⟨rfl, hbw⟩; rw [hv1.out]; replace hb := Lib.hid (below_all hb.out hbw); replace hD := Lib.hid (hD.out.next hbw); replace D0 := hD.out.t.c0; replace D1 := hD.out.t.c1; replace D2 := hD.out.t.c2; replace hY := Lib.hid (hY.out.next hbw); replace Y0 := hY.out.t.c0; replace Y1 := hY.out.t.c1; replace Y2 := hY.out.t.c2; replace hN := Lib.hid (hN.out.next hbw); replace N0 := hN.out.t.c0; replace N1 := hN.out.t.c1; replace N2 := hN.out.t.c2; replace hC := Lib.hid (hC.out.next hbw); replace C0 := hC.out.t.c0; replace C1 := hC.out.t.c1; replace C2 := hC.out.t.c2; clear hbw) | (go_at_call 18; refine (rvalidsq _ _ _ _).mono ?_; rintro e w' ⟨rfl, hbw⟩; rw [hv2.out]; replace hb := Lib.hid (below_all hb.out hbw); replace hD := Lib.hid (hD.out.next hbw); replace D0 := hD.out.t.c0; replace D1 := hD.out.t.c1; replace D2 := hD.out.t.c2; replace hY := Lib.hid (hY.out.next hbw); replace Y0 := hY.out.t.c0; replace Y1 := hY.out.t.c1; replace Y2 := hY.out.t.c2; replace hN := Lib.hid (hN.out.next hbw); replace N0 := hN.out.t.c0; replace N1 := hN.out.t.c1; replace N2 := hN.out.t.c2; replace hC := Lib.hid (hC.out.next hbw); replace C0 := hC.out.t.c0; replace C1 := hC.out.t.c1; replace C2 := hC.out.t.c2; clear hbw) | (go_at_call 19; refine (rvalidp _ _).mono ?_; rintro e w' ⟨rfl, rfl⟩; rw [hv3.out]))
    go_wp2_with fail
    go_at_call 14
    refine (rsameb _ _ _ _ _ 0 0 none 0 [] _ hC.out.p (pcs_nil _ _ _) (by omega) (by simp)).mono ?_
    rintro e u4 ⟨rfl, hbw⟩
    rw [bEq_z hz.out]
    replace hb := Lib.hid (below_all hb.out hbw); replace hD := Lib.hid (hD.out.next hbw); replace D0 := hD.out.t.c0; replace D1 := hD.out.t.c1; replace D2 := hD.out.t.c2; replace hY := Lib.hid (hY.out.next hbw); replace Y0 := hY.out.t.c0; replace Y1 := hY.out.t.c1; replace Y2 := hY.out.t.c2; replace hN := Lib.hid (hN.out.next hbw); replace N0 := hN.out.t.c0; replace N1 := hN.out.t.c1; replace N2 := hN.out.t.c2; replace hC := Lib.hid (hC.out.next hbw); replace C0 := hC.out.t.c0; replace C1 := hC.out.t.c1; replace C2 := hC.out.t.c2
    clear hbw
    go_wp2_with (go_at_call 10; refine (known_3 _ (hEW.out _ hb.out)).mono ?_; rintro e w' ⟨rfl, hbw⟩; replace hb := Lib.hid (below_all hb.out hbw); clear hbw)
    go_ret
    exact ⟨rfl, hb.out⟩
set_option maxRecDepth 100000 in
set_option maxHeartbeats 1000000 in
theorem puts_c (f r : Int) (A : Option Addr) (c : Nat) (l : List Int) (kn : Nat) (p : Int) (w : World) (hA : PcsAt w w.heap.size A l) (hE : EnvAt w) (hl7 : l.length ≤ 70) (h : szB f r = true) (hbd : bdB f r l = true) (hsq : sqB f r (kn : Int) = true) (hp : okP p = true) : Calls Tryd.prog 3 #[bV f r A l.length c, .int .i64 (kn : Int), .int .i8 p] w fun e w' => e = .returned (.bool true) ∧ Below w.heap.size w w' := by
  have hl : l.length ≤ maxLen := by unfold maxLen; omega
  have h7 := Lib.hid (decide_eq_true hl7)
  obtain ⟨n, hn, hn1, hn9, _⟩ := size_nat h
  obtain ⟨L, hL⟩ : ∃ L : List Int, List.replicate n 0 = L := ⟨_, rfl⟩
  have hLl : L.length ≤ 64 := by rw [← hL, List.length_replicate]; exact hn9
  replace hL := Lib.hid hL
  replace hn := Lib.hid hn
  have hlen := (bdB_out hbd).2.1
  have hkn : kn < l.length := by have := (sqB_out hsq).2.2; omega
  have hl64 : l.length ≤ 64 := by have := hn.out; omega
  clear hlen
  obtain ⟨L1, hL1⟩ : ∃ L : List Int, l.set kn p = L := ⟨_, rfl⟩
  have hL1p : 0 < L1.length := by rw [← hL1, List.length_set]; omega
  have hL1l : L1.length ≤ 64 := by rw [← hL1, List.length_set]; omega
  replace hL1 := Lib.hid hL1
  have hEW : Hid (∀ W, Below w.heap.size w W → EnvAt W) := fun W hb => hE.next hb
  have hD := Lib.hid (BD.first (f := f) (r := r) (c := c) hA 26)
  have hb : Hid (Below w.heap.size w (w.alloc (.cells #[.int .i64 f, .int .i64 r, .slice A l.length c] 26))) := (Below.refl _ _).alloc (Nat.le_refl _) _
  clear hA hE
  go_enter Tryd.func3, Tryd.ntmps3
  go_upto_region 1 with fail
  generalize hB : w.heap.size = B at hD
  generalize w.alloc (.cells #[.int .i64 f, .int .i64 r, .slice A l.length c] 26) = w1 at *
  have D0 := hD.out.t.c0; have D1 := hD.out.t.c1; have D2 := hD.out.t.c2
  go_upto_region 3 with (go_at_call 9; refine (csmall _ _ _ _ _ _ hl).mono ?_; rintro e w' ⟨rfl, hbw⟩; rw [h7.out]; replace hb := Lib.hid (below_all hb.out hbw); replace hD := Lib.hid (hD.out.next hbw); replace D0 := hD.out.t.c0; replace D1 := hD.out.t.c1; replace D2 := hD.out.t.c2; clear hbw)
  go_wp2_with fail
  go_at_call 11
  refine (rcopy _ _ _ _ _ _ hD.out.p (by omega)).mono ?_
  rintro e wY ⟨AY, cY, rfl, hO⟩
  replace hO := Lib.hid hO
  go_upto_region 4 with fail
  have hbo := (hO.out.alloc (.cells #[.int .i64 f, .int .i64 r, .slice AY l.length cY] 26)).below
  replace hb := Lib.hid (below_all hb.out hbo); replace hD := Lib.hid (hD.out.next hbo); replace D0 := hD.out.t.c0; replace D1 := hD.out.t.c1; replace D2 := hD.out.t.c2
  have hY := Lib.hid (BD.made hO.out f r 26)
  clear hbo hO
  generalize hBY : wY.heap.size = BY at *
  generalize wY.alloc (.cells #[.int .i64 f, .int .i64 r, .slice AY l.length cY] 26) = vY at *
  clear hBY
  have Y0 := hY.out.t.c0; have Y1 := hY.out.t.c1; have Y2 := hY.out.t.c2
  go_wp2_with fail
  go_at_call 12
  refine (pempty_n _ _ _ h n hn.out hn9 hL.out).mono ?_
  rintro e wN ⟨AN, cN, rfl, hO⟩
  replace hO := Lib.hid hO
  go_upto_region 5 with fail
  have hbo := (hO.out.alloc (.cells #[.int .i64 f, .int .i64 r, .slice AN L.length cN] 26)).below
  replace hb := Lib.hid (below_all hb.out hbo); replace hD := Lib.hid (hD.out.next hbo); replace D0 := hD.out.t.c0; replace D1 := hD.out.t.c1; replace D2 := hD.out.t.c2; replace hY := Lib.hid (hY.out.next hbo); replace Y0 := hY.out.t.c0; replace Y1 := hY.out.t.c1; replace Y2 := hY.out.t.c2
  have hN := Lib.hid (BD.made hO.out f r 26)
  clear hbo hO
  generalize hBN : wN.heap.size = BN at *
  generalize wN.alloc (.cells #[.int .i64 f, .int .i64 r, .slice AN L.length cN] 26) = vN at *
  clear hBN
  have N0 := hN.out.t.c0; have N1 := hN.out.t.c1; have N2 := hN.out.t.c2
  have hD9 := hD
  have hY9 := hY
  have hb9 := hb
  go_wp2_with fail
  go_at_call 13
  refine (pput_n _ _ _ _ _ kn p _ hD.out.p (by omega) hbd hkn hp hL1.out).mono ?_
  rintro e w3 ⟨AC, cC, rfl, hO⟩
  obtain ⟨g, rfl, hg⟩ := hO.qform hL1p
  have hg2 : g < w3.heap.size := (World.ownsRow.lt hO.own g rfl).2
  replace hO := Lib.hid hO
  go_upto_region 6 with fail
  replace hO := Lib.hid (hO.out.alloc (.cells #[.int .i64 f, .int .i64 r, .slice (some ⟨g, 0, none⟩) L1.length cC] 26))
  have hT := Lib.hid (tri_new w3 w3.heap.size (.int .i64 f) (.int .i64 r) (.slice (some ⟨g, 0, none⟩) L1.length cC) 26 rfl)
  replace hb := Lib.hid (below_all hb.out hO.out.below); replace hD := Lib.hid (hD.out.next hO.out.below); replace D0 := hD.out.t.c0; replace D1 := hD.out.t.c1; replace D2 := hD.out.t.c2; replace hY := Lib.hid (hY.out.next hO.out.below); replace Y0 := hY.out.t.c0; replace Y1 := hY.out.t.c1; replace Y2 := hY.out.t.c2; replace hN := Lib.hid (hN.out.next hO.out.below); replace N0 := hN.out.t.c0; replace N1 := hN.out.t.c1; replace N2 := hN.out.t.c2
  generalize hBC : w3.heap.size = BC at *
  generalize w3.alloc (.cells #[.int .i64 f, .int .i64 r, .slice (some ⟨g, 0, none⟩) L1.length cC] 26) = v3 at *
  clear hBC
  have P0 := hT.out.c0; have P1 := hT.out.c1; have P2 := hT.out.c2
  go_wp2_with fail
  go_at_call 14
  refine (rsameb _ _ _ _ _ _ _ _ _ _ _ hY.out.p hD.out.p (by omega) (by omega)).mono ?_
  rintro e u1 ⟨rfl, hbw⟩
  rw [bEq_rfl]
  replace hb := Lib.hid (below_all hb.out hbw); replace hD := Lib.hid (hD.out.next hbw); replace D0 := hD.out.t.c0; replace D1 := hD.out.t.c1; replace D2 := hD.out.t.c2; replace hY := Lib.hid (hY.out.next hbw); replace Y0 := hY.out.t.c0; replace Y1 := hY.out.t.c1; replace Y2 := hY.out.t.c2; replace hN := Lib.hid (hN.out.next hbw); replace N0 := hN.out.t.c0; replace N1 := hN.out.t.c1; replace N2 := hN.out.t.c2; replace hO := Lib.hid (hO.out.next hbw); replace hT := Lib.hid (hT.out.next hbw); replace P0 := hT.out.c0; replace P1 := hT.out.c1; replace P2 := hT.out.c2
  clear hbw
  go_wp2_with fail
  go_at_call 15
  refine (rsize _ _ _).mono ?_
  rintro e u2 ⟨rfl, hbw⟩
  rw [h]
  replace hb := Lib.hid (below_all hb.out hbw); replace hD := Lib.hid (hD.out.next hbw); replace D0 := hD.out.t.c0; replace D1 := hD.out.t.c1; replace D2 := hD.out.t.c2; replace hY := Lib.hid (hY.out.next hbw); replace Y0 := hY.out.t.c0; replace Y1 := hY.out.t.c1; replace Y2 := hY.out.t.c2; replace hN := Lib.hid (hN.out.next hbw); replace N0 := hN.out.t.c0; replace N1 := hN.out.t.c1; replace N2 := hN.out.t.c2; replace hO := Lib.hid (hO.out.next hbw); replace hT := Lib.hid (hT.out.next hbw); replace P0 := hT.out.c0; replace P1 := hT.out.c1; replace P2 := hT.out.c2
  clear hbw
  go_upto_region 11 with fail
  go_region_held3 (fun w' => w'.cell? ⟨B, 0, none⟩ = some (.int .i64 f) ∧ w'.cell? ⟨B, 1, none⟩ = some (.int .i64 r) ∧ w'.cell? ⟨BN, 0, none⟩ = some (.int .i64 f) ∧ w'.cell? ⟨BN, 1, none⟩ = some (.int .i64 r) ∧ w'.cell? ⟨BN, 2, none⟩ = some (.slice AN L.length cN)) (exact ⟨hD.out.t.c0, hD.out.t.c1, hN.out.t.c0, hN.out.t.c1, hN.out.t.c2⟩)
    (first
    | (go_at_call 16; refine (rempty_n _ _ _ h n hn.out hn9 hL.out).mono ?_; rintro e u5 ⟨A5, c5, rfl, hO5⟩; have hp5 := Lib.hid (RecAt.of_own qEnc_len rfl hO5.own); have hb5 := hO5.below; clear hO5; replace hb : Hid (Below w.heap.size w u5) := (by first | exact below_all hb.out hb5 | exact below_all hb.out (undrew hb5)); replace hD : Hid (BD f r l A c B u5) := (by first | exact hD.out.next hb5 | exact hD.out.next (undrew hb5)); replace D0 := hD.out.t.c0; replace D1 := hD.out.t.c1; replace D2 := hD.out.t.c2; replace hY : Hid (BD f r l AY cY BY u5) := (by first | exact hY.out.next hb5 | exact hY.out.next (undrew hb5)); replace Y0 := hY.out.t.c0; replace Y1 := hY.out.t.c1; replace Y2 := hY.out.t.c2; replace hN : Hid (BD f r L AN cN BN u5) := (by first | exact hN.out.next hb5 | exact hN.out.next (undrew hb5)); replace N0 := hN.out.t.c0; replace N1 := hN.out.t.c1; replace N2 := hN.out.t.c2; replace hO : Hid (O1 qEnc 1 vN.heap.size 28 vN u5 (some ⟨g, 0, none⟩) cC L1) := (by first | exact hO.out.next hb5 | exact hO.out.next (undrew hb5)); replace hT : Hid (Tri u5 BC (.int .i64 f) (.int .i64 r) (.slice (some ⟨g, 0, none⟩) L1.length cC)) := (by first | exact hT.out.next hb5 | exact hT.out.next (undrew hb5)); replace P0 := hT.out.c0; replace P1 := hT.out.c1; replace P2 := hT.out.c2; clear hb5)
    | (go_at_call 14; refine (rsameb _ _ _ _ _ _ _ _ _ _ _ hN.out.p hp5.out (by omega) (by omega)).mono ?_; rintro e u6 ⟨rfl, hb5⟩; rw [bEq_rfl]; replace hb : Hid (Below w.heap.size w u6) := (by first | exact below_all hb.out hb5 | exact below_all hb.out (undrew hb5)); replace hD : Hid (BD f r l A c B u6) := (by first | exact hD.out.next hb5 | exact hD.out.next (undrew hb5)); replace D0 := hD.out.t.c0; replace D1 := hD.out.t.c1; replace D2 := hD.out.t.c2; replace hY : Hid (BD f r l AY cY BY u6) := (by first | exact hY.out.next hb5 | exact hY.out.next (undrew hb5)); replace Y0 := hY.out.t.c0; replace Y1 := hY.out.t.c1; replace Y2 := hY.out.t.c2; replace hN : Hid (BD f r L AN cN BN u6) := (by first | exact hN.out.next hb5 | exact hN.out.next (undrew hb5)); replace N0 := hN.out.t.c0; replace N1 := hN.out.t.c1; replace N2 := hN.out.t.c2; replace hO : Hid (O1 qEnc 1 vN.heap.size 28 vN u6 (some ⟨g, 0, none⟩) cC L1) := (by first | exact hO.out.next hb5 | exact hO.out.next (undrew hb5)); replace hT : Hid (Tri u6 BC (.int .i64 f) (.int .i64 r) (.slice (some ⟨g, 0, none⟩) L1.length cC)) := (by first | exact hT.out.next hb5 | exact hT.out.next (undrew hb5)); replace P0 := hT.out.c0; replace P1 := hT.out.c1; replace P2 := hT.out.c2; clear hb5))
  all_goals
    go_upto_region 15 with (first | (go_at_call 17; refine (rbvalid _ _ _ _ _ _ hD.out.p (by omega)).mono ?_; rintro e w' ⟨rfl, hbw⟩; rw [hbd]; replace hb := Lib.hid (below_all hb.out hbw); replace hD := Lib.hid (hD.out.next hbw); replace D0 := hD.out.t.c0; replace D1 := hD.out.t.c1; replace D2 := hD.out.t.c2; replace hY := Lib.hid (hY.out.next hbw); replace Y0 := hY.out.t.c0; replace Y1 := hY.out.t.c1; replace Y2 := hY.out.t.c2; replace hN := Lib.hid (hN.out.next hbw); replace N0 := hN.out.t.c0; replace N1 := hN.out.t.c1; replace N2 := hN.out.t.c2; replace hO := Lib.hid (hO.out.next hbw); replace hT := Lib.hid (hT.out.next hbw); replace P0 := hT.out.c0; replace P1 := hT.out.c1; replace P2 := hT.out.c2; clear hbw) | (go_at_call 18; refine (rvalidsq _ _ _ _).mono ?_; rintro e w' ⟨rfl, hbw⟩; rw [hsq]; replace hb := Lib.hid (below_all hb.out hbw); replace hD := Lib.hid (hD.out.next hbw); replace D0 := hD.out.t.c0; replace D1 := hD.out.t.c1; replace D2 := hD.out.t.c2; replace hY := Lib.hid (hY.out.next hbw); replace Y0 := hY.out.t.c0; replace Y1 := hY.out.t.c1; replace Y2 := hY.out.t.c2; replace hN := Lib.hid (hN.out.next hbw); replace N0 := hN.out.t.c0; replace N1 := hN.out.t.c1; replace N2 := hN.out.t.c2; replace hO := Lib.hid (hO.out.next hbw); replace hT := Lib.hid (hT.out.next hbw); replace P0 := hT.out.c0; replace P1 := hT.out.c1; replace P2 := hT.out.c2; clear hbw) | (go_at_call 19; refine (rvalidp _ _).mono ?_; rintro e w' ⟨rfl, rfl⟩; rw [hp]))
    go_region_held3 (fun w' => w'.cell? ⟨B, 0, none⟩ = some (.int .i64 f) ∧ w'.cell? ⟨B, 1, none⟩ = some (.int .i64 r) ∧ w'.cell? ⟨B, 2, none⟩ = some (.slice A l.length c) ∧ w'.cell? ⟨BC, 0, none⟩ = some (.int .i64 f) ∧ w'.cell? ⟨BC, 1, none⟩ = some (.int .i64 r) ∧ w'.cell? ⟨BC, 2, none⟩ = some (.slice (some ⟨g, 0, none⟩) L1.length cC)) (exact ⟨hD.out.t.c0, hD.out.t.c1, hD.out.t.c2, hT.out.c0, hT.out.c1, hT.out.c2⟩)
      (first
      | (go_at_call 20; refine (rput_n _ _ _ _ _ kn p _ (by first | exact hD.out.p | exact hD.out.drew.p) (by omega) hkn hL1.out).mono ?_; rintro e u7 ⟨A7, c7, rfl, hO7⟩; have hp7 := Lib.hid (RecAt.of_own qEnc_len rfl hO7.own); have hb5 := hO7.below; clear hO7; replace hb : Hid (Below w.heap.size w u7) := (by first | exact below_all hb.out hb5 | exact below_all hb.out (undrew hb5)); replace hD : Hid (BD f r l A c B u7) := (by first | exact hD.out.next hb5 | exact hD.out.next (undrew hb5)); replace D0 := hD.out.t.c0; replace D1 := hD.out.t.c1; replace D2 := hD.out.t.c2; replace hY : Hid (BD f r l AY cY BY u7) := (by first | exact hY.out.next hb5 | exact hY.out.next (undrew hb5)); replace Y0 := hY.out.t.c0; replace Y1 := hY.out.t.c1; replace Y2 := hY.out.t.c2; replace hN : Hid (BD f r L AN cN BN u7) := (by first | exact hN.out.next hb5 | exact hN.out.next (undrew hb5)); replace N0 := hN.out.t.c0; replace N1 := hN.out.t.c1; replace N2 := hN.out.t.c2; replace hO : Hid (O1 qEnc 1 vN.heap.size 28 vN u7 (some ⟨g, 0, none⟩) cC L1) := (by first | exact hO.out.next hb5 | exact hO.out.next (undrew hb5)); replace hT : Hid (Tri u7 BC (.int .i64 f) (.int .i64 r) (.slice (some ⟨g, 0, none⟩) L1.length cC)) := (by first | exact hT.out.next hb5 | exact hT.out.next (undrew hb5)); replace P0 := hT.out.c0; replace P1 := hT.out.c1; replace P2 := hT.out.c2; clear hb5)
      | (go_at_call 14; refine (rsameb _ _ _ _ _ _ _ _ _ _ _ (RecAt.of_own qEnc_len rfl hO.out.own) hp7.out (by omega) (by omega)).mono ?_; rintro e u8 ⟨rfl, hb5⟩; rw [bEq_rfl]; replace hb : Hid (Below w.heap.size w u8) := (by first | exact below_all hb.out hb5 | exact below_all hb.out (undrew hb5)); replace hD : Hid (BD f r l A c B u8) := (by first | exact hD.out.next hb5 | exact hD.out.next (undrew hb5)); replace D0 := hD.out.t.c0; replace D1 := hD.out.t.c1; replace D2 := hD.out.t.c2; replace hY : Hid (BD f r l AY cY BY u8) := (by first | exact hY.out.next hb5 | exact hY.out.next (undrew hb5)); replace Y0 := hY.out.t.c0; replace Y1 := hY.out.t.c1; replace Y2 := hY.out.t.c2; replace hN : Hid (BD f r L AN cN BN u8) := (by first | exact hN.out.next hb5 | exact hN.out.next (undrew hb5)); replace N0 := hN.out.t.c0; replace N1 := hN.out.t.c1; replace N2 := hN.out.t.c2; replace hO : Hid (O1 qEnc 1 vN.heap.size 28 vN u8 (some ⟨g, 0, none⟩) cC L1) := (by first | exact hO.out.next hb5 | exact hO.out.next (undrew hb5)); replace hT : Hid (Tri u8 BC (.int .i64 f) (.int .i64 r) (.slice (some ⟨g, 0, none⟩) L1.length cC)) := (by first | exact hT.out.next hb5 | exact hT.out.next (undrew hb5)); replace P0 := hT.out.c0; replace P1 := hT.out.c1; replace P2 := hT.out.c2; clear hb5))
    all_goals
      go_wp2_with fail
      go_loopw [12, 97] (fun _ i wr => ∃ (j : Nat) (M : List Int), j ≤ L1.length ∧ i = .int .i64 j ∧ Hid (M.length = L1.length) ∧ Hid (O1 qEnc 1 vN.heap.size 28 vN wr (some ⟨g, 0, none⟩) cC M) ∧ Hid (Tri wr BC (.int .i64 f) (.int .i64 r) (.slice (some ⟨g, 0, none⟩) L1.length cC))) (fun _ i _ => L1.length - (intOf i).toNat)
      case atStart => exact ⟨0, L1, by omega, rfl, rfl, hO, hT⟩
      case round =>
        obtain ⟨j, M, hj, rfl, hM, hO, hT⟩ := hrel
        clear D0 D1 D2 Y0 Y1 Y2 N0 N1 N2 P0 P1 P2
        have P0 := hT.out.c0; have P1 := hT.out.c1; have P2 := hT.out.c2
        by_cases hjn : j < L1.length
        · obtain ⟨x, hx⟩ : ∃ x, M[j]? = some x := ⟨_, List.getElem?_eq_getElem (by rw [hM.out]; exact hjn)⟩
          have q0 := hO.out.qcell hx
          have q1 := World.ownsRow.frozenAt hO.out.own j
          clear hx
          go_wp2_with fail
          go_roundw
          case rel => exact ⟨j + 1, M.set j 1, by omega, by go_num, by show _ = _; rw [List.length_set]; exact hM.out, hO.out.setAt j 1, hT.out.other (a := ⟨g, j, none⟩) (by show g ≠ _; omega) _⟩
          case measure => simp [intOf]; omega
        · obtain rfl : j = L1.length := by omega
          replace hb := Lib.hid (below_all hb9.out hO.out.below)
          replace hD := Lib.hid (hD9.out.next hO.out.below)
          replace hY := Lib.hid (hY9.out.next hO.out.below)
          have D0 := hD.out.t.c0; have D1 := hD.out.t.c1; have D2 := hD.out.t.c2
          have Y0 := hY.out.t.c0; have Y1 := hY.out.t.c1; have Y2 := hY.out.t.c2
          go_wp2_with (first | (go_at_call 14; refine (rsameb _ _ _ _ _ _ _ _ _ _ _ hY.out.p hD.out.p (by omega) (by omega)).mono ?_; rintro e w' ⟨rfl, hbw⟩; rw [bEq_rfl]; replace hb := Lib.hid (below_all hb.out hbw); replace hD := Lib.hid (hD.out.next hbw); replace D0 := hD.out.t.c0; replace D1 := hD.out.t.c1; replace D2 := hD.out.t.c2; replace hY := Lib.hid (hY.out.next hbw); replace Y0 := hY.out.t.c0; replace Y1 := hY.out.t.c1; replace Y2 := hY.out.t.c2; clear hbw) | (go_at_call 10; refine (known_3 _ (hEW.out _ hb.out)).mono ?_; rintro e w' ⟨rfl, hbw⟩; replace hb := Lib.hid (below_all hb.out hbw); clear hbw))
          go_ret
          exact ⟨rfl, hb.out⟩
theorem law_puts (f r : Int) (A : Option Addr) (c : Nat) (l : List Int) (k p : Int) (w : World) (hA : PcsAt w w.heap.size A l) (hE : EnvAt w) (hl : l.length ≤ maxLen) : Calls Tryd.prog 3 #[bV f r A l.length c, .int .i64 k, .int .i8 p] w fun e w' => e = .returned (.bool true) ∧ Below w.heap.size w w' := by
  rcases Nat.lt_or_ge 70 l.length with h7 | h7
  · exact puts_far f r A c l k p w hA hE hl h7
  rcases h : szB f r with _ | _
  · exact puts_a f r A c l k p w hA hE h7 h
  rcases h1 : bdB f r l with _ | _
  · exact puts_b1 f r A c l k p w hA hE h7 h h1
  rcases h2 : sqB f r k with _ | _
  · exact puts_b2 f r A c l k p w hA hE h7 h h1 h2
  rcases h3 : okP p with _ | _
  · exact puts_b3 f r A c l k p w hA hE h7 h h1 h2 h3
  obtain ⟨kn, rfl⟩ : ∃ kn : Nat, k = kn := ⟨k.toNat, by have := (sqB_out h2).2.1; omega⟩
  exact puts_c f r A c l kn p w hA hE h7 h h1 h2 h3
end Go.Proofs.YtjglpphfkkabnaaDoor
