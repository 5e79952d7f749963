/- Layer 3: the law BoardValid. Printed by gen_bo.py. -/
import Derived.Test.YtjglpphfkkabnaaDoorBn
namespace Go.Proofs.YtjglpphfkkabnaaDoor
open Go.RowKit
set_option linter.unusedSimpArgs false
set_option linter.unusedVariables false

set_option maxRecDepth 100000 in
set_option maxHeartbeats 1000000 in
theorem bv_far1 (f r : Int) (A : Option Addr) (c : Nat) (l : List Int) (f' r' : Int) (A' : Option Addr) (c' : Nat) (l' : List Int) (w : World) (hA : PcsAt w w.heap.size A l) (hA' : PcsAt w w.heap.size A' l') (hE : EnvAt w) (hl : l.length ≤ maxLen) (hl' : l'.length ≤ maxLen) (h : 70 < l.length) : Calls Tryd.prog 8 #[bV f r A l.length c, bV f' r' A' l'.length c'] w fun e w' => e = .returned (.bool true) ∧ Below w.heap.size w w' := by
  have h7 := Lib.hid (decide_eq_false (show ¬ l.length ≤ 70 by omega))
  have hEW : Hid (∀ W, Below w.heap.size w W → EnvAt W) := fun W hb => hE.next hb
  have hD := Lib.hid ((BD.first (f := f) (r := r) (c := c) hA 26).alloc (.cells #[.int .i64 f', .int .i64 r', .slice A' l'.length c'] 26))
  have h8 : Below w.heap.size w (w.alloc (.cells #[.int .i64 f, .int .i64 r, .slice A l.length c] 26)) := (Below.refl _ _).alloc (Nat.le_refl _) _
  have hG := Lib.hid (BD.first (f := f') (r := r') (c := c') ((hA'.below (Nat.le_refl _) h8).more h8.size) 26)
  have hb : Hid (Below w.heap.size w ((w.alloc (.cells #[.int .i64 f, .int .i64 r, .slice A l.length c] 26)).alloc (.cells #[.int .i64 f', .int .i64 r', .slice A' l'.length c'] 26))) := h8.alloc (by simp) _
  have hs8 : (w.alloc (.cells #[.int .i64 f, .int .i64 r, .slice A l.length c] 26)).heap.size = w.heap.size + 1 := by simp
  rw [hs8] at hG
  clear hA hA' hE h8 hs8
  go_enter Tryd.func8, Tryd.ntmps8
  go_upto_region 1 with fail
  generalize (w.alloc (.cells #[.int .i64 f, .int .i64 r, .slice A l.length c] 26)).alloc (.cells #[.int .i64 f', .int .i64 r', .slice A' l'.length c'] 26) = w1 at *
  generalize hB2 : w.heap.size + 1 = B2 at *
  generalize hB : w.heap.size = B at hD hB2 ⊢
  have D0 := hD.out.t.c0; have D1 := hD.out.t.c1; have D2 := hD.out.t.c2
  have G0 := hG.out.t.c0; have G1 := hG.out.t.c1; have G2 := hG.out.t.c2
  go_wp2_with fail
  go_at_call 9
  refine (csmall _ _ _ _ _ _ hl).mono ?_
  rintro e t1 ⟨rfl, hbw⟩
  rw [h7.out]
  replace hb := Lib.hid (below_all hb.out hbw); replace hD := Lib.hid (hD.out.next hbw); replace D0 := hD.out.t.c0; replace D1 := hD.out.t.c1; replace D2 := hD.out.t.c2; replace hG := Lib.hid (hG.out.next hbw); replace G0 := hG.out.t.c0; replace G1 := hG.out.t.c1; replace G2 := hG.out.t.c2
  clear hbw
  go_wp2_with (go_at_call 10; refine (known_3 _ (hEW.out _ (by first | exact hb.out | exact hb.out.drew))).mono ?_; rintro e w' ⟨rfl, hbw⟩; replace hb := Lib.hid (below_all hb.out hbw); clear hbw)
  go_ret
  exact ⟨rfl, hb.out⟩
set_option maxRecDepth 100000 in
set_option maxHeartbeats 1000000 in
theorem bv_far2 (f r : Int) (A : Option Addr) (c : Nat) (l : List Int) (f' r' : Int) (A' : Option Addr) (c' : Nat) (l' : List Int) (w : World) (hA : PcsAt w w.heap.size A l) (hA' : PcsAt w w.heap.size A' l') (hE : EnvAt w) (hl : l.length ≤ maxLen) (hl' : l'.length ≤ maxLen) (h : l.length ≤ 70) (h' : 70 < l'.length) : Calls Tryd.prog 8 #[bV f r A l.length c, bV f' r' A' l'.length c'] w fun e w' => e = .returned (.bool true) ∧ Below w.heap.size w w' := by
  have h7 := Lib.hid (decide_eq_true h)
  have h8 := Lib.hid (decide_eq_false (show ¬ l'.length ≤ 70 by omega))
  have hEW : Hid (∀ W, Below w.heap.size w W → EnvAt W) := fun W hb => hE.next hb
  have hD := Lib.hid ((BD.first (f := f) (r := r) (c := c) hA 26).alloc (.cells #[.int .i64 f', .int .i64 r', .slice A' l'.length c'] 26))
  have h8 : Below w.heap.size w (w.alloc (.cells #[.int .i64 f, .int .i64 r, .slice A l.length c] 26)) := (Below.refl _ _).alloc (Nat.le_refl _) _
  have hG := Lib.hid (BD.first (f := f') (r := r') (c := c') ((hA'.below (Nat.le_refl _) h8).more h8.size) 26)
  have hb : Hid (Below w.heap.size w ((w.alloc (.cells #[.int .i64 f, .int .i64 r, .slice A l.length c] 26)).alloc (.cells #[.int .i64 f', .int .i64 r', .slice A' l'.length c'] 26))) := h8.alloc (by simp) _
  have hs8 : (w.alloc (.cells #[.int .i64 f, .int .i64 r, .slice A l.length c] 26)).heap.size = w.heap.size + 1 := by simp
  rw [hs8] at hG
  clear hA hA' hE h8 hs8
  go_enter Tryd.func8, Tryd.ntmps8
  go_upto_region 1 with fail
  generalize (w.alloc (.cells #[.int .i64 f, .int .i64 r, .slice A l.length c] 26)).alloc (.cells #[.int .i64 f', .int .i64 r', .slice A' l'.length c'] 26) = w1 at *
  generalize hB2 : w.heap.size + 1 = B2 at *
  generalize hB : w.heap.size = B at hD hB2 ⊢
  have D0 := hD.out.t.c0; have D1 := hD.out.t.c1; have D2 := hD.out.t.c2
  have G0 := hG.out.t.c0; have G1 := hG.out.t.c1; have G2 := hG.out.t.c2
  go_wp2_with fail
  go_at_call 9
  refine (csmall _ _ _ _ _ _ hl).mono ?_
  rintro e t1 ⟨rfl, hbw⟩
  rw [h7.out]
  replace hb := Lib.hid (below_all hb.out hbw); replace hD := Lib.hid (hD.out.next hbw); replace D0 := hD.out.t.c0; replace D1 := hD.out.t.c1; replace D2 := hD.out.t.c2; replace hG := Lib.hid (hG.out.next hbw); replace G0 := hG.out.t.c0; replace G1 := hG.out.t.c1; replace G2 := hG.out.t.c2
  clear hbw
  go_wp2_with fail
  go_at_call 9
  refine (csmall _ _ _ _ _ _ hl').mono ?_
  rintro e t2 ⟨rfl, hbw⟩
  rw [h8.out]
  replace hb := Lib.hid (below_all hb.out hbw); replace hD := Lib.hid (hD.out.next hbw); replace D0 := hD.out.t.c0; replace D1 := hD.out.t.c1; replace D2 := hD.out.t.c2; replace hG := Lib.hid (hG.out.next hbw); replace G0 := hG.out.t.c0; replace G1 := hG.out.t.c1; replace G2 := hG.out.t.c2
  clear hbw
  go_wp2_with (go_at_call 10; refine (known_3 _ (hEW.out _ (by first | exact hb.out | exact hb.out.drew))).mono ?_; rintro e w' ⟨rfl, hbw⟩; replace hb := Lib.hid (below_all hb.out hbw); clear hbw)
  go_ret
  exact ⟨rfl, hb.out⟩
/-- the next piece, as an int8 -/
def upB (x : Int) : Int := IntKind.i8.wrap (x + 1)
set_option maxRecDepth 100000 in
set_option maxHeartbeats 1000000 in
theorem bv_near (f r : Int) (A : Option Addr) (c : Nat) (l : List Int) (f' r' : Int) (A' : Option Addr) (c' : Nat) (l' : List Int) (w : World) (hA : PcsAt w w.heap.size A l) (hA' : PcsAt w w.heap.size A' l') (hE : EnvAt w) (hl : l.length ≤ maxLen) (hl' : l'.length ≤ maxLen) (hl7 : l.length ≤ 70) (hl8 : l'.length ≤ 70) (hbl : ∀ p, p ∈ l → -128 ≤ p ∧ p ≤ 127) : Calls Tryd.prog 8 #[bV f r A l.length c, bV f' r' A' l'.length c'] w fun e w' => e = .returned (.bool true) ∧ Below w.heap.size w w' := by
  have h7 := Lib.hid (decide_eq_true hl7)
  have h8 := Lib.hid (decide_eq_true hl8)
  obtain ⟨V, hV⟩ : ∃ V, bdB f r l = V := ⟨_, rfl⟩
  obtain ⟨E, hE9⟩ : ∃ E, bEq f r l f' r' l' = E := ⟨_, rfl⟩
  have hEW : Hid (∀ W, Below w.heap.size w W → EnvAt W) := fun W hb => hE.next hb
  have hD := Lib.hid ((BD.first (f := f) (r := r) (c := c) hA 26).alloc (.cells #[.int .i64 f', .int .i64 r', .slice A' l'.length c'] 26))
  have h8 : Below w.heap.size w (w.alloc (.cells #[.int .i64 f, .int .i64 r, .slice A l.length c] 26)) := (Below.refl _ _).alloc (Nat.le_refl _) _
  have hG := Lib.hid (BD.first (f := f') (r := r') (c := c') ((hA'.below (Nat.le_refl _) h8).more h8.size) 26)
  have hb : Hid (Below w.heap.size w ((w.alloc (.cells #[.int .i64 f, .int .i64 r, .slice A l.length c] 26)).alloc (.cells #[.int .i64 f', .int .i64 r', .slice A' l'.length c'] 26))) := h8.alloc (by simp) _
  have hs8 : (w.alloc (.cells #[.int .i64 f, .int .i64 r, .slice A l.length c] 26)).heap.size = w.heap.size + 1 := by simp
  rw [hs8] at hG
  clear hA hA' hE h8 hs8
  go_enter Tryd.func8, Tryd.ntmps8
  go_upto_region 1 with fail
  generalize (w.alloc (.cells #[.int .i64 f, .int .i64 r, .slice A l.length c] 26)).alloc (.cells #[.int .i64 f', .int .i64 r', .slice A' l'.length c'] 26) = w1 at *
  generalize hB2 : w.heap.size + 1 = B2 at *
  generalize hB : w.heap.size = B at hD hB2 ⊢
  have D0 := hD.out.t.c0; have D1 := hD.out.t.c1; have D2 := hD.out.t.c2
  have G0 := hG.out.t.c0; have G1 := hG.out.t.c1; have G2 := hG.out.t.c2
  go_wp2_with fail
  go_at_call 9
  refine (csmall _ _ _ _ _ _ hl).mono ?_
  rintro e t1 ⟨rfl, hbw⟩
  rw [h7.out]
  replace hb := Lib.hid (below_all hb.out hbw); replace hD := Lib.hid (hD.out.next hbw); replace D0 := hD.out.t.c0; replace D1 := hD.out.t.c1; replace D2 := hD.out.t.c2; replace hG := Lib.hid (hG.out.next hbw); replace G0 := hG.out.t.c0; replace G1 := hG.out.t.c1; replace G2 := hG.out.t.c2
  clear hbw
  go_wp2_with fail
  go_at_call 9
  refine (csmall _ _ _ _ _ _ hl').mono ?_
  rintro e t2 ⟨rfl, hbw⟩
  rw [h8.out]
  replace hb := Lib.hid (below_all hb.out hbw); replace hD := Lib.hid (hD.out.next hbw); replace D0 := hD.out.t.c0; replace D1 := hD.out.t.c1; replace D2 := hD.out.t.c2; replace hG := Lib.hid (hG.out.next hbw); replace G0 := hG.out.t.c0; replace G1 := hG.out.t.c1; replace G2 := hG.out.t.c2
  clear hbw
  go_upto_region 3 with fail
  have hD9 := hD
  have hb9 := hb
  generalize t2 = v0 at *
  go_wp2_with fail
  go_at_call 33
  refine (pcopy _ _ _ _ _ _ hD.out.p (by omega)).mono ?_
  rintro e w3 ⟨AC, cC, rfl, hO⟩
  have hg : Hid (∀ g o, AC = some ⟨g, o, none⟩ → 0 < l.length → g < w3.heap.size) := fun g o e _ => (World.ownsRow.lt hO.own g (by rw [e]; rfl)).2
  replace hO := Lib.hid hO
  go_upto_region 4 with fail
  replace hO := Lib.hid (hO.out.alloc (.cells #[.int .i64 f, .int .i64 r, .slice AC l.length cC] 26))
  have hT := Lib.hid (tri_new w3 w3.heap.size (.int .i64 f) (.int .i64 r) (.slice AC l.length cC) 26 rfl)
  replace hb := Lib.hid (below_all hb.out hO.out.below); replace hD := Lib.hid (hD.out.next hO.out.below); replace D0 := hD.out.t.c0; replace D1 := hD.out.t.c1; replace D2 := hD.out.t.c2; replace hG := Lib.hid (hG.out.next hO.out.below); replace G0 := hG.out.t.c0; replace G1 := hG.out.t.c1; replace G2 := hG.out.t.c2
  generalize hBC : w3.heap.size = BC at *
  generalize w3.alloc (.cells #[.int .i64 f, .int .i64 r, .slice AC l.length cC] 26) = v3 at *
  clear hBC
  have P0 := hT.out.c0; have P1 := hT.out.c1; have P2 := hT.out.c2
  go_region_held3 (fun w' => w'.cell? ⟨B, 0, none⟩ = some (.int .i64 f) ∧ w'.cell? ⟨B, 1, none⟩ = some (.int .i64 r) ∧ w'.cell? ⟨B, 2, none⟩ = some (.slice A l.length c) ∧ w'.cell? ⟨B2, 0, none⟩ = some (.int .i64 f') ∧ w'.cell? ⟨B2, 1, none⟩ = some (.int .i64 r') ∧ w'.cell? ⟨B2, 2, none⟩ = some (.slice A' l'.length c') ∧ w'.cell? ⟨BC, 0, none⟩ = some (.int .i64 f) ∧ w'.cell? ⟨BC, 1, none⟩ = some (.int .i64 r) ∧ w'.cell? ⟨BC, 2, none⟩ = some (.slice AC l.length cC)) (exact ⟨hD.out.t.c0, hD.out.t.c1, hD.out.t.c2, hG.out.t.c0, hG.out.t.c1, hG.out.t.c2, hT.out.c0, hT.out.c1, hT.out.c2⟩)
    (first
    | (go_at_call 34; refine (pbvalid _ _ _ _ _ _ (by first | exact hD.out.p | exact hD.out.drew.p) (by omega)).mono ?_; rintro e u5 ⟨rfl, hb5⟩; rw [hV]; replace hb : Hid (Below w.heap.size w u5) := (by first | exact below_all hb.out hb5 | exact below_all hb.out (undrew hb5)); replace hD : Hid (BD f r l A c B u5) := (by first | exact hD.out.next hb5 | exact hD.out.next (undrew hb5)); replace D0 := hD.out.t.c0; replace D1 := hD.out.t.c1; replace D2 := hD.out.t.c2; replace hG : Hid (BD f' r' l' A' c' B2 u5) := (by first | exact hG.out.next hb5 | exact hG.out.next (undrew hb5)); replace G0 := hG.out.t.c0; replace G1 := hG.out.t.c1; replace G2 := hG.out.t.c2; replace hO : Hid (O1 qEnc 1 v0.heap.size 28 v0 u5 AC cC l) := (by first | exact hO.out.next hb5 | exact hO.out.next (undrew hb5)); replace hT : Hid (Tri u5 BC (.int .i64 f) (.int .i64 r) (.slice AC l.length cC)) := (by first | exact hT.out.next hb5 | exact hT.out.next (undrew hb5)); replace P0 := hT.out.c0; replace P1 := hT.out.c1; replace P2 := hT.out.c2; clear hb5)
    | (go_at_call 17; refine (rbvalid _ _ _ _ _ _ (by first | exact hD.out.p | exact hD.out.drew.p) (by omega)).mono ?_; rintro e u5 ⟨rfl, hb5⟩; rw [hV]; replace hb : Hid (Below w.heap.size w u5) := (by first | exact below_all hb.out hb5 | exact below_all hb.out (undrew hb5)); replace hD : Hid (BD f r l A c B u5) := (by first | exact hD.out.next hb5 | exact hD.out.next (undrew hb5)); replace D0 := hD.out.t.c0; replace D1 := hD.out.t.c1; replace D2 := hD.out.t.c2; replace hG : Hid (BD f' r' l' A' c' B2 u5) := (by first | exact hG.out.next hb5 | exact hG.out.next (undrew hb5)); replace G0 := hG.out.t.c0; replace G1 := hG.out.t.c1; replace G2 := hG.out.t.c2; replace hO : Hid (O1 qEnc 1 v0.heap.size 28 v0 u5 AC cC l) := (by first | exact hO.out.next hb5 | exact hO.out.next (undrew hb5)); replace hT : Hid (Tri u5 BC (.int .i64 f) (.int .i64 r) (.slice AC l.length cC)) := (by first | exact hT.out.next hb5 | exact hT.out.next (undrew hb5)); replace P0 := hT.out.c0; replace P1 := hT.out.c1; replace P2 := hT.out.c2; clear hb5)
    | (go_at_call 35; refine (pequal _ _ _ _ _ _ _ _ _ _ _ (by first | exact hD.out.p | exact hD.out.drew.p) (by first | exact hG.out.p | exact hG.out.drew.p) (by omega) (by omega)).mono ?_; rintro e u5 ⟨rfl, hb5⟩; rw [hE9]; replace hb : Hid (Below w.heap.size w u5) := (by first | exact below_all hb.out hb5 | exact below_all hb.out (undrew hb5)); replace hD : Hid (BD f r l A c B u5) := (by first | exact hD.out.next hb5 | exact hD.out.next (undrew hb5)); replace D0 := hD.out.t.c0; replace D1 := hD.out.t.c1; replace D2 := hD.out.t.c2; replace hG : Hid (BD f' r' l' A' c' B2 u5) := (by first | exact hG.out.next hb5 | exact hG.out.next (undrew hb5)); replace G0 := hG.out.t.c0; replace G1 := hG.out.t.c1; replace G2 := hG.out.t.c2; replace hO : Hid (O1 qEnc 1 v0.heap.size 28 v0 u5 AC cC l) := (by first | exact hO.out.next hb5 | exact hO.out.next (undrew hb5)); replace hT : Hid (Tri u5 BC (.int .i64 f) (.int .i64 r) (.slice AC l.length cC)) := (by first | exact hT.out.next hb5 | exact hT.out.next (undrew hb5)); replace P0 := hT.out.c0; replace P1 := hT.out.c1; replace P2 := hT.out.c2; clear hb5)
    | (go_at_call 14; refine (rsameb _ _ _ _ _ _ _ _ _ _ _ (by first | exact hD.out.p | exact hD.out.drew.p) (by first | exact hG.out.p | exact RecAt.of_own qEnc_len rfl hO.out.own | exact hG.out.drew.p | exact RecAt.of_own qEnc_len rfl hO.out.drew.own) (by omega) (by omega)).mono ?_; rintro e u5 ⟨rfl, hb5⟩; (first | rw [hE9] | rw [bEq_rfl]); replace hb : Hid (Below w.heap.size w u5) := (by first | exact below_all hb.out hb5 | exact below_all hb.out (undrew hb5)); replace hD : Hid (BD f r l A c B u5) := (by first | exact hD.out.next hb5 | exact hD.out.next (undrew hb5)); replace D0 := hD.out.t.c0; replace D1 := hD.out.t.c1; replace D2 := hD.out.t.c2; replace hG : Hid (BD f' r' l' A' c' B2 u5) := (by first | exact hG.out.next hb5 | exact hG.out.next (undrew hb5)); replace G0 := hG.out.t.c0; replace G1 := hG.out.t.c1; replace G2 := hG.out.t.c2; replace hO : Hid (O1 qEnc 1 v0.heap.size 28 v0 u5 AC cC l) := (by first | exact hO.out.next hb5 | exact hO.out.next (undrew hb5)); replace hT : Hid (Tri u5 BC (.int .i64 f) (.int .i64 r) (.slice AC l.length cC)) := (by first | exact hT.out.next hb5 | exact hT.out.next (undrew hb5)); replace P0 := hT.out.c0; replace P1 := hT.out.c1; replace P2 := hT.out.c2; clear hb5))
  all_goals
    clear hG G0 G1 G2
    go_wp2_with fail
    go_at_call 11
    refine (rcopy _ _ _ _ _ _ (by first | exact hD.out.p | exact hD.out.drew.p) (by omega)).mono ?_
    rintro e w6 ⟨AY, cY, rfl, hY8⟩
    have hYo := Lib.hid (own_lower hY8.own (show BC + 1 ≤ _ from hT.out.lt))
    have hcy := Nat.lt_of_lt_of_le hT.out.lt hY8.below.size
    replace hY8 := Lib.hid hY8
    go_upto_region 7 with fail
    have hbo := (hY8.out.alloc (.cells #[.int .i64 f, .int .i64 r, .slice AY l.length cY] 26)).below
    replace hYo := Lib.hid (World.ownsRow.alloc hYo.out (.cells #[.int .i64 f, .int .i64 r, .slice AY l.length cY] 26))
    have hTY := Lib.hid (tri_new w6 w6.heap.size (.int .i64 f) (.int .i64 r) (.slice AY l.length cY) 26 rfl)
    have hap : Hid (∀ g o, AC = some ⟨g, o, none⟩ → 0 < l.length → g < BC) := fun g o e h0 => hg.out g o e h0
    replace hb : Hid (Below w.heap.size w (w6.alloc (.cells #[.int .i64 f, .int .i64 r, .slice AY l.length cY] 26))) := (by first | exact below_all hb.out hbo | exact below_all hb.out (undrew hbo)); replace hD : Hid (BD f r l A c B (w6.alloc (.cells #[.int .i64 f, .int .i64 r, .slice AY l.length cY] 26))) := (by first | exact hD.out.next hbo | exact hD.out.next (undrew hbo)); replace D0 := hD.out.t.c0; replace D1 := hD.out.t.c1; replace D2 := hD.out.t.c2; replace hO : Hid (O1 qEnc 1 v0.heap.size 28 v0 (w6.alloc (.cells #[.int .i64 f, .int .i64 r, .slice AY l.length cY] 26)) AC cC l) := (by first | exact hO.out.next hbo | exact hO.out.next (undrew hbo)); replace hT : Hid (Tri (w6.alloc (.cells #[.int .i64 f, .int .i64 r, .slice AY l.length cY] 26)) BC (.int .i64 f) (.int .i64 r) (.slice AC l.length cC)) := (by first | exact hT.out.next hbo | exact hT.out.next (undrew hbo)); replace P0 := hT.out.c0; replace P1 := hT.out.c1; replace P2 := hT.out.c2
    clear hbo hY8
    generalize hBY : w6.heap.size = BY at *
    generalize w6.alloc (.cells #[.int .i64 f, .int .i64 r, .slice AY l.length cY] 26) = v6 at *
    clear hBY
    go_wp2_with fail
    go_loopw [7, 44] (fun _ i wr => ∃ (j : Nat) (M : List Int), j ≤ l.length ∧ i = .int .i64 j ∧ Hid (M.length = l.length) ∧ Hid (O1 qEnc 1 v0.heap.size 28 v0 wr AC cC M) ∧ Hid (Tri wr BC (.int .i64 f) (.int .i64 r) (.slice AC l.length cC)) ∧ Hid (Own1 qEnc 1 (BC + 1) 28 wr AY cY l) ∧ Hid (Tri wr BY (.int .i64 f) (.int .i64 r) (.slice AY l.length cY))) (fun _ i _ => l.length - (intOf i).toNat)
    case atStart => exact ⟨0, l, by omega, rfl, rfl, hO, hT, hYo, hTY⟩
    case round =>
      clear hT hTY hYo hO
      obtain ⟨j, M, hj, rfl, hM, hO, hT, hYo, hTY⟩ := hrel
      clear D0 D1 D2 P0 P1 P2
      have P0 := hT.out.c0; have P1 := hT.out.c1; have P2 := hT.out.c2
      by_cases hjn : j < l.length
      · obtain ⟨x, hx⟩ : ∃ x, M[j]? = some x := ⟨_, List.getElem?_eq_getElem (by rw [hM.out]; exact hjn)⟩
        obtain ⟨g, rfl, hgb⟩ := hO.out.qform (by rw [hM.out]; omega)
        have hgc := hap.out g 0 rfl (by omega)
        have q0 := hO.out.qcell hx
        have q1 := World.ownsRow.frozenAt hO.out.own j
        clear hx
        go_wp2_with fail
        go_roundw
        case rel => exact ⟨j + 1, M.set j _, by omega, by go_num, by show _ = _; rw [List.length_set]; exact hM.out, hO.out.setAt j _, hT.out.other (a := ⟨g, j, none⟩) (by show g ≠ _; omega) _, ownsRow_setCell_other (a := ⟨g, j, none⟩) hYo.out (fun e => by have := (World.ownsRow.lt hYo.out g e).1; omega) _, hTY.out.other (a := ⟨g, j, none⟩) (by show g ≠ _; omega) _⟩
        case measure => simp [intOf]; omega
      · obtain rfl : j = l.length := by omega
        replace hb := Lib.hid (below_all hb9.out hO.out.below)
        replace hD := Lib.hid (hD9.out.next hO.out.below)
        have hY : Hid (BD f r l AY cY BY _) := ⟨hTY.out, RecAt.of_own qEnc_len rfl hYo.out⟩
        have D0 := hD.out.t.c0; have D1 := hD.out.t.c1; have D2 := hD.out.t.c2
        have Y0 := hY.out.t.c0; have Y1 := hY.out.t.c1; have Y2 := hY.out.t.c2
        go_wp2_with (first | (go_at_call 14; refine (rsameb _ _ _ _ _ _ _ _ _ _ _ hD.out.p hY.out.p (by omega) (by omega)).mono ?_; rintro e w' ⟨rfl, hbw⟩; rw [bEq_rfl]; replace hb := Lib.hid (below_all hb.out hbw); replace hD := Lib.hid (hD.out.next hbw); replace D0 := hD.out.t.c0; replace D1 := hD.out.t.c1; replace D2 := hD.out.t.c2; replace hY := Lib.hid (hY.out.next hbw); replace Y0 := hY.out.t.c0; replace Y1 := hY.out.t.c1; replace Y2 := hY.out.t.c2; clear hbw) | (go_at_call 10; refine (known_3 _ (hEW.out _ (by first | exact hb.out | exact hb.out.drew))).mono ?_; rintro e w' ⟨rfl, hbw⟩; replace hb := Lib.hid (below_all hb.out hbw); clear hbw))
        go_ret
        exact ⟨rfl, hb.out⟩
theorem law_bvalid (f r : Int) (A : Option Addr) (c : Nat) (l : List Int) (f' r' : Int) (A' : Option Addr) (c' : Nat) (l' : List Int) (w : World) (hA : PcsAt w w.heap.size A l) (hA' : PcsAt w w.heap.size A' l') (hE : EnvAt w) (hl : l.length ≤ maxLen) (hl' : l'.length ≤ maxLen) (hbl : ∀ p, p ∈ l → -128 ≤ p ∧ p ≤ 127) : Calls Tryd.prog 8 #[bV f r A l.length c, bV f' r' A' l'.length c'] w fun e w' => e = .returned (.bool true) ∧ Below w.heap.size w w' := by
  rcases Nat.lt_or_ge 70 l.length with h7 | h7
  · exact bv_far1 f r A c l f' r' A' c' l' w hA hA' hE hl hl' h7
  rcases Nat.lt_or_ge 70 l'.length with h8 | h8
  · exact bv_far2 f r A c l f' r' A' c' l' w hA hA' hE hl hl' h7 h8
  exact bv_near f r A c l f' r' A' c' l' w hA hA' hE hl hl' h7 h8 hbl
end Go.Proofs.YtjglpphfkkabnaaDoor
