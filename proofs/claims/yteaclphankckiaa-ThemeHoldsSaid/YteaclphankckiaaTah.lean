/- Layer 35: the chapter's examples hold. -/
import Derived.Test.YteaclphankckiaaTag
namespace Go.Proofs.Yteaclphankckiaa
open Go Go.RowKit
set_option linter.unusedSimpArgs false
set_option linter.unusedVariables false

def xL : List LnT := [(1, ⟨#[97, 49, 98, 49]⟩, 1, 0, 1, 0), (2, ⟨#[100, 52, 100, 51]⟩, 2, 15, 11, 0), (3, ⟨#[98, 49, 97, 49]⟩, 3, 1, 0, 0), (4, ⟨#[100, 51, 99, 51]⟩, 4, 11, 10, 0), (5, ⟨#[97, 49, 97, 50]⟩, 5, 0, 4, 0)]
def yL : List LnT := [(1, ⟨#[97, 50, 97, 51]⟩, 1, 4, 8, 0), (2, ⟨#[100, 52, 100, 51]⟩, 2, 15, 11, 0), (3, ⟨#[97, 51, 97, 52, 78]⟩, 3, 8, 12, 2), (2, ⟨#[100, 52, 99, 52]⟩, 2, 15, 14, 0), (3, ⟨#[97, 51, 97, 52, 81]⟩, 3, 8, 12, 5)]
def xN : List Nd := [(1, 0, 1, 0), (2, 15, 11, 0), (3, 1, 0, 0), (4, 11, 10, 0), (5, 0, 4, 0)]
def yN : List Nd := [(1, 4, 8, 0), (2, 15, 11, 0), (3, 8, 12, 2), (2, 15, 14, 0), (3, 8, 12, 5)]
theorem xL_nd : ndsL xL = xN := rfl
theorem yL_nd : ndsL yL = yN := rfl
theorem xN_ok : treeB 4 4 xN = true := by decide +kernel
theorem yN_ok : treeB 4 4 yN = true := by decide +kernel
theorem xL_text : isText 4 4 ⟨#[49, 32, 97, 49, 98, 49, 10, 50, 32, 100, 52, 100, 51, 10, 51, 32, 98, 49, 97, 49, 10, 52, 32, 100, 51, 99, 51, 10, 53, 32, 97, 49, 97, 50, 10]⟩ xL = true := by decide +kernel
theorem yL_text : isText 4 4 ⟨#[49, 32, 97, 50, 97, 51, 10, 50, 32, 100, 52, 100, 51, 10, 51, 32, 97, 51, 97, 52, 78, 10, 50, 32, 100, 52, 99, 52, 10, 51, 32, 97, 51, 97, 52, 81, 10]⟩ yL = true := by decide +kernel
theorem x_p4 : pth (back xN 5) = [0, 1, 0, 4] := by decide +kernel
theorem x_p2 : pth (back xN 3) = [0, 1, 0] := by decide +kernel
theorem y_p4 : pth (back yN 5) = [4, 8, 12] := by decide +kernel
theorem x_fnd : fnd 4 4 false xN 5 = [(4, 2)] := by decide +kernel
theorem y_fnd : fnd 4 4 false yN 5 = [(1, 2), (2, 2), (6, 2), (1, 4), (6, 4)] := by decide +kernel
theorem recs_lit {α : Type} {f : α → List Value} {size : Nat} (hf : ∀ x, (f x).length = size) (w : World) (cs : Array Value) (t : TypeId) (l : List α) (h : cs.toList = flatR f l) (hs : cs.size = l.length * size) (hm : l.length ≤ maxLen) : RecAt f size (w.alloc (.cells cs t)) (w.alloc (.cells cs t)).heap.size (some ⟨w.heap.size, 0, none⟩) l := by
  have h2 := World.ownsRow_lit (e := t) (base := w.heap.size) (size := size) w cs l.length (Nat.le_refl _) hm hs
  rw [h] at h2
  exact RecAt.of_own hf rfl h2
set_option maxRecDepth 100000 in
set_option maxHeartbeats 8000000 in
theorem known_35 (w : World) : Calls Try.prog 8 #[] w fun e w' => e = .returned (.bool true) ∧ Below w.heap.size w w' := by
  have hsx : Hid (∀ W, Calls Try.prog 25 #[.string ⟨#[49, 32, 97, 49, 98, 49, 10, 50, 32, 100, 52, 100, 51, 10, 51, 32, 98, 49, 97, 49, 10, 52, 32, 100, 51, 99, 51, 10, 53, 32, 97, 49, 97, 50, 10]⟩] W fun e w' => ∃ A c, e = .returned (.slice A 5 c) ∧ RecAt nEnc 4 w' w'.heap.size A xN ∧ Below W.heap.size W w') := fun W => by
    have h := psmall _ xL W (by rw [xL_nd]; exact (treeB_out xN_ok).2) xL_text
    rw [xL_nd] at h
    exact h
  have hsy : Hid (∀ W, Calls Try.prog 25 #[.string ⟨#[49, 32, 97, 50, 97, 51, 10, 50, 32, 100, 52, 100, 51, 10, 51, 32, 97, 51, 97, 52, 78, 10, 50, 32, 100, 52, 99, 52, 10, 51, 32, 97, 51, 97, 52, 81, 10]⟩] W fun e w' => ∃ A c, e = .returned (.slice A 5 c) ∧ RecAt nEnc 4 w' w'.heap.size A yN ∧ Below W.heap.size W w') := fun W => by
    have h := psmall _ yL W (by rw [yL_nd]; exact (treeB_out yN_ok).2) yL_text
    rw [yL_nd] at h
    exact h
  have hp1 : Hid (∀ W A c, RecAt nEnc 4 W W.heap.size A xN → Calls Try.prog 26 #[.slice A 5 c, .int .i64 4, .slice (some ⟨W.heap.size, 0, none⟩) 4 4] (W.alloc (.cells #[.int .i64 0, .int .i64 1, .int .i64 0, .int .i64 4] 3)) fun e w' => e = .returned (.bool true) ∧ Below W.heap.size W w') := fun W A c hR => by
    have hb : Below W.heap.size W (W.alloc (.cells #[.int .i64 0, .int .i64 1, .int .i64 0, .int .i64 4] 3)) := (Below.refl _ _).alloc (Nat.le_refl _) _
    refine (ppathT A xN c 4 (some ⟨W.heap.size, 0, none⟩) [0, 1, 0, 4] 4 _ ((hR.below (Nat.le_refl _) hb).more hb.size) (recs_lit iEnc_len W _ _ [0, 1, 0, 4] rfl rfl (by decide)) (by decide) xN_ok (by decide) x_p4).mono ?_
    rintro e w' ⟨rfl, h2⟩
    exact ⟨rfl, hb.trans (h2.mono hb.size)⟩
  have hp2 : Hid (∀ W A c, RecAt nEnc 4 W W.heap.size A xN → Calls Try.prog 26 #[.slice A 5 c, .int .i64 2, .slice (some ⟨W.heap.size, 0, none⟩) 3 3] (W.alloc (.cells #[.int .i64 0, .int .i64 1, .int .i64 0] 3)) fun e w' => e = .returned (.bool true) ∧ Below W.heap.size W w') := fun W A c hR => by
    have hb : Below W.heap.size W (W.alloc (.cells #[.int .i64 0, .int .i64 1, .int .i64 0] 3)) := (Below.refl _ _).alloc (Nat.le_refl _) _
    refine (ppathT A xN c 2 (some ⟨W.heap.size, 0, none⟩) [0, 1, 0] 3 _ ((hR.below (Nat.le_refl _) hb).more hb.size) (recs_lit iEnc_len W _ _ [0, 1, 0] rfl rfl (by decide)) (by decide) xN_ok (by decide) x_p2).mono ?_
    rintro e w' ⟨rfl, h2⟩
    exact ⟨rfl, hb.trans (h2.mono hb.size)⟩
  have hp3 : Hid (∀ W A c, RecAt nEnc 4 W W.heap.size A yN → Calls Try.prog 26 #[.slice A 5 c, .int .i64 4, .slice (some ⟨W.heap.size, 0, none⟩) 3 3] (W.alloc (.cells #[.int .i64 4, .int .i64 8, .int .i64 12] 3)) fun e w' => e = .returned (.bool true) ∧ Below W.heap.size W w') := fun W A c hR => by
    have hb : Below W.heap.size W (W.alloc (.cells #[.int .i64 4, .int .i64 8, .int .i64 12] 3)) := (Below.refl _ _).alloc (Nat.le_refl _) _
    refine (ppathT A yN c 4 (some ⟨W.heap.size, 0, none⟩) [4, 8, 12] 3 _ ((hR.below (Nat.le_refl _) hb).more hb.size) (recs_lit iEnc_len W _ _ [4, 8, 12] rfl rfl (by decide)) (by decide) yN_ok (by decide) y_p4).mono ?_
    rintro e w' ⟨rfl, h2⟩
    exact ⟨rfl, hb.trans (h2.mono hb.size)⟩
  have hf1 : Hid (∀ W A c, RecAt nEnc 4 W W.heap.size A xN → Calls Try.prog 14 #[.agg #[.int .i64 4, .int .i64 4], .bool false, .slice A 5 c] W fun e w' => ∃ A2 c2, e = .returned (.tuple #[.slice A2 1 c2, .int .i64 0]) ∧ RecAt shEnc 2 w' w'.heap.size A2 [(4, 2)] ∧ Below W.heap.size W w') := fun W A c hR => by
    refine (pfind_yes 4 4 false A xN c W hR (by decide) xN_ok).mono ?_
    rintro e w' ⟨A2, c2, rfl, h1, h2⟩
    rw [show xN.length = 5 from rfl, x_fnd] at h1 ⊢
    exact ⟨A2, c2, rfl, h1, h2⟩
  have hf2 : Hid (∀ W A c, RecAt nEnc 4 W W.heap.size A yN → Calls Try.prog 14 #[.agg #[.int .i64 4, .int .i64 4], .bool false, .slice A 5 c] W fun e w' => ∃ A2 c2, e = .returned (.tuple #[.slice A2 5 c2, .int .i64 0]) ∧ RecAt shEnc 2 w' w'.heap.size A2 [(1, 2), (2, 2), (6, 2), (1, 4), (6, 4)] ∧ Below W.heap.size W w') := fun W A c hR => by
    refine (pfind_yes 4 4 false A yN c W hR (by decide) yN_ok).mono ?_
    rintro e w' ⟨A2, c2, rfl, h1, h2⟩
    rw [show yN.length = 5 from rfl, y_fnd] at h1 ⊢
    exact ⟨A2, c2, rfl, h1, h2⟩
  have hs1 : Hid (∀ W A c, RecAt shEnc 2 W W.heap.size A [(4, 2)] → Calls Try.prog 15 #[.slice A 1 c, .slice (some ⟨W.heap.size, 0, none⟩) 1 1] (W.alloc (.cells #[.int .i64 4, .int .i64 2] 52)) fun e w' => e = .returned (.bool true) ∧ Below W.heap.size W w') := fun W A c hR => by
    have hb : Below W.heap.size W (W.alloc (.cells #[.int .i64 4, .int .i64 2] 52)) := (Below.refl _ _).alloc (Nat.le_refl _) _
    have h := rsameS A (some ⟨W.heap.size, 0, none⟩) c 1 [(4, 2)] [(4, 2)] _ ((hR.below (Nat.le_refl _) hb).more hb.size) (recs_lit shEnc_len W #[.int .i64 4, .int .i64 2] 52 [(4, 2)] rfl rfl (by decide)) (by decide) (by decide)
    refine h.mono ?_
    rintro e w' ⟨rfl, h2⟩
    exact ⟨by rw [decide_eq_true rfl], hb.trans (h2.mono hb.size)⟩
  have hs2 : Hid (∀ W A c, RecAt shEnc 2 W W.heap.size A [(1, 2), (2, 2), (6, 2), (1, 4), (6, 4)] → Calls Try.prog 15 #[.slice A 5 c, .slice (some ⟨W.heap.size, 0, none⟩) 5 5] (W.alloc (.cells #[.int .i64 1, .int .i64 2, .int .i64 2, .int .i64 2, .int .i64 6, .int .i64 2, .int .i64 1, .int .i64 4, .int .i64 6, .int .i64 4] 52)) fun e w' => e = .returned (.bool true) ∧ Below W.heap.size W w') := fun W A c hR => by
    have hb : Below W.heap.size W (W.alloc (.cells #[.int .i64 1, .int .i64 2, .int .i64 2, .int .i64 2, .int .i64 6, .int .i64 2, .int .i64 1, .int .i64 4, .int .i64 6, .int .i64 4] 52)) := (Below.refl _ _).alloc (Nat.le_refl _) _
    have h := rsameS A (some ⟨W.heap.size, 0, none⟩) c 5 [(1, 2), (2, 2), (6, 2), (1, 4), (6, 4)] [(1, 2), (2, 2), (6, 2), (1, 4), (6, 4)] _ ((hR.below (Nat.le_refl _) hb).more hb.size) (recs_lit shEnc_len W #[.int .i64 1, .int .i64 2, .int .i64 2, .int .i64 2, .int .i64 6, .int .i64 2, .int .i64 1, .int .i64 4, .int .i64 6, .int .i64 4] 52 [(1, 2), (2, 2), (6, 2), (1, 4), (6, 4)] rfl rfl (by decide)) (by decide) (by decide)
    refine h.mono ?_
    rintro e w' ⟨rfl, h2⟩
    exact ⟨by rw [decide_eq_true rfl], hb.trans (h2.mono hb.size)⟩
  have hn5 : Hid (∀ W, Calls Try.prog 17 #[.int .i64 5] W fun e w' => e = .returned (.tuple #[.string ⟨#[114, 111, 117, 110, 100, 116, 114, 105, 112]⟩, .int .i64 0]) ∧ Below W.heap.size W w') := fun W => pname_yes 4 W (by decide)
  have hps : Hid (∀ W, Calls Try.prog 18 #[.string ⟨#[83, 119, 105, 116, 99, 104, 98, 97, 99, 107]⟩] W fun e w' => e = .returned (.tuple #[.int .i64 0, .int .i64 6]) ∧ Below W.heap.size W w') := fun W => pparse_no _ W (by decide +kernel)
  go_enter Try.func8, Try.ntmps8
  go_wp2_with fail
  go_at_call 25
  refine (hsx.out _).mono ?_
  rintro e w1 ⟨Ax, cx, rfl, hRx, hb1⟩
  replace hRx := Lib.hid hRx
  replace hb1 := Lib.hid hb1
  go_wp2_with fail
  go_at_call 25
  refine (hsy.out w1).mono ?_
  rintro e w2 ⟨Ay, cy, rfl, hRy, hb2⟩
  replace hRx := Lib.hid ((hRx.out.below (Nat.le_refl _) hb2).more hb2.size)
  replace hRy := Lib.hid hRy
  replace hb2 := Lib.hid (hb1.out.trans (hb2.mono hb1.out.size))
  clear hsx hsy hb1
  go_wp2_with fail
  go_at_call 26
  refine (hp1.out w2 Ax cx hRx.out).mono ?_
  rintro e w3 ⟨rfl, hb3⟩
  replace hRx := Lib.hid ((hRx.out.below (Nat.le_refl _) hb3).more hb3.size)
  replace hRy := Lib.hid ((hRy.out.below (Nat.le_refl _) hb3).more hb3.size)
  replace hb3 := Lib.hid (hb2.out.trans (hb3.mono hb2.out.size))
  clear hp1 hb2
  go_wp2_with fail
  go_at_call 26
  refine (hp2.out w3 Ax cx hRx.out).mono ?_
  rintro e w4 ⟨rfl, hb4⟩
  replace hRx := Lib.hid ((hRx.out.below (Nat.le_refl _) hb4).more hb4.size)
  replace hRy := Lib.hid ((hRy.out.below (Nat.le_refl _) hb4).more hb4.size)
  replace hb4 := Lib.hid (hb3.out.trans (hb4.mono hb3.out.size))
  clear hp2 hb3
  go_wp2_with fail
  go_at_call 26
  refine (hp3.out w4 Ay cy hRy.out).mono ?_
  rintro e w5 ⟨rfl, hb5⟩
  replace hRx := Lib.hid ((hRx.out.below (Nat.le_refl _) hb5).more hb5.size)
  replace hRy := Lib.hid ((hRy.out.below (Nat.le_refl _) hb5).more hb5.size)
  replace hb5 := Lib.hid (hb4.out.trans (hb5.mono hb4.out.size))
  clear hp3 hb4
  go_wp2_with fail
  go_at_call 27
  refine (pfour _).mono ?_
  rintro e w6 ⟨rfl, hb6⟩
  replace hRx := Lib.hid ((hRx.out.below (Nat.le_refl _) hb6).more hb6.size)
  replace hRy := Lib.hid ((hRy.out.below (Nat.le_refl _) hb6).more hb6.size)
  replace hb6 := Lib.hid (hb5.out.trans (hb6.mono hb5.out.size))
  clear hb5
  go_wp2_with fail
  go_at_call 14
  refine (hf1.out w6 Ax cx hRx.out).mono ?_
  rintro e w7 ⟨Aa, ca, rfl, hRa, hb7⟩
  replace hRa := Lib.hid hRa
  replace hRy := Lib.hid ((hRy.out.below (Nat.le_refl _) hb7).more hb7.size)
  replace hb7 := Lib.hid (hb6.out.trans (hb7.mono hb6.out.size))
  clear hf1 hb6 hRx
  go_wp2_with fail
  go_at_call 27
  refine (pfour _).mono ?_
  rintro e w8 ⟨rfl, hb8⟩
  replace hRa := Lib.hid ((hRa.out.below (Nat.le_refl _) hb8).more hb8.size)
  replace hRy := Lib.hid ((hRy.out.below (Nat.le_refl _) hb8).more hb8.size)
  replace hb8 := Lib.hid (hb7.out.trans (hb8.mono hb7.out.size))
  clear hb7
  go_wp2_with fail
  go_at_call 14
  refine (hf2.out w8 Ay cy hRy.out).mono ?_
  rintro e w9 ⟨Ab, cb, rfl, hRb, hb9⟩
  replace hRa := Lib.hid ((hRa.out.below (Nat.le_refl _) hb9).more hb9.size)
  replace hRb := Lib.hid hRb
  replace hb9 := Lib.hid (hb8.out.trans (hb9.mono hb8.out.size))
  clear hf2 hb8 hRy
  go_wp2_with fail
  go_at_call 15
  refine (hs1.out w9 Aa ca hRa.out).mono ?_
  rintro e wa ⟨rfl, hba⟩
  replace hRb := Lib.hid ((hRb.out.below (Nat.le_refl _) hba).more hba.size)
  replace hba := Lib.hid (hb9.out.trans (hba.mono hb9.out.size))
  clear hs1 hb9 hRa
  go_wp2_with fail
  go_at_call 15
  refine (hs2.out wa Ab cb hRb.out).mono ?_
  rintro e wb ⟨rfl, hbb⟩
  replace hbb := Lib.hid (hba.out.trans (hbb.mono hba.out.size))
  clear hs2 hba hRb
  go_wp2_with fail
  go_at_call 17
  refine (hn5.out wb).mono ?_
  rintro e wc ⟨rfl, hbc⟩
  replace hbc := Lib.hid (hbb.out.trans (hbc.mono hbb.out.size))
  clear hn5 hbb
  go_wp2_with fail
  go_at_call 18
  refine (hps.out wc).mono ?_
  rintro e wd ⟨rfl, hbd⟩
  replace hbd := Lib.hid (hbc.out.trans (hbd.mono hbc.out.size))
  clear hps hbc
  go_wp2_with fail
  go_ret
  exact ⟨rfl, hbd.out⟩
end Go.Proofs.Yteaclphankckiaa
