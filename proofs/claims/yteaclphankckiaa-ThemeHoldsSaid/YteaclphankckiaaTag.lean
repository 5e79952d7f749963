/- Layer 35: the chapter's examples. -/
import Derived.Test.YteaclphankckiaaTaf
import Derived.Test.YteaclphankckiaaTn
import Derived.Test.YteaclphankckiaaTo
import Derived.Test.YteaclphankckiaaTt
namespace Go.Proofs.Yteaclphankckiaa
open Go Go.RowKit
set_option linter.unusedSimpArgs false
set_option linter.unusedVariables false

theorem pfour (w : World) : Calls Try.prog 27 #[] w fun e w' => e = .returned (.agg #[.int .i64 4, .int .i64 4]) ∧ Below w.heap.size w w' := by
  have hS := Lib.hid (Sz2.new w 4 4 23)
  have hb1 : Hid (Below w.heap.size w (w.alloc (.cells #[.int .i64 4, .int .i64 4] 23))) := (Below.refl _ _).alloc (Nat.le_refl _) _
  go_enter Try.func27, Try.ntmps27
  go_wp2
  generalize w.alloc (.cells #[.int .i64 4, .int .i64 4] 23) = w1 at *
  have c0 := hS.out.c0
  have c1 := hS.out.c1
  exact bodyPost_ret (v := .agg #[.int .i64 4, .int .i64 4]) (by simp [results, Try.results27, go_sem, c0, c1]) rfl ⟨rfl, hb1.out⟩
/-- small gives the tree with a text -/
theorem psmall (s : ByteArray) (L : List LnT) (w : World) (hok : okK 4 4 (ndsL L) (ndsL L).length = true) (hs : isText 4 4 s L = true) :
    Calls Try.prog 25 #[.string s] w fun e w' => ∃ A c, e = .returned (.slice A (ndsL L).length c) ∧ RecAt nEnc 4 w' w'.heap.size A (ndsL L) ∧ Below w.heap.size w w' := by
  have hp := Lib.hid (fun W => rptree 4 4 s L W (by decide) hok hs)
  clear hok hs
  go_enter Try.func25, Try.ntmps25
  go_wp2_with (first
    | (go_at_call 27; refine (pfour _).mono ?_; rintro e w1 ⟨rfl, hb1⟩; replace hb1 := Lib.hid hb1)
    | (go_at_call 45; refine (hp.out w1).mono ?_; rintro e w2 ⟨A, c, rfl, hO⟩; replace hO := Lib.hid hO))
  go_ret
  exact ⟨A, c, rfl, hO.out.recs nEnc_len, hb1.out.trans (hO.out.below.mono hb1.out.size)⟩
/-- path compares a path -/
theorem ppathT (A : Option Addr) (t : List Nd) (c i : Nat) (Aw : Option Addr) (want : List Int) (cw : Nat) (w : World) (hT : RecAt nEnc 4 w w.heap.size A t) (hW : RecAt iEnc 1 w w.heap.size Aw want) (hl : t.length ≤ 1000) (hv : treeB 4 4 t = true) (hi : i < t.length) (hw : pth (back t (i + 1)) = want) :
    Calls Try.prog 26 #[.slice A t.length c, .int .i64 (i : Int), .slice Aw want.length cw] w fun e w' => e = .returned (.bool true) ∧ Below w.heap.size w w' := by
  have hTH : Hid (∀ W, Below w.heap.size w W → RecAt nEnc 4 W W.heap.size A t) := fun W hb => (hT.below (Nat.le_refl _) hb).more hb.size
  have hWH : Hid (∀ W, Below w.heap.size w W → RecAt iEnc 1 W W.heap.size Aw want) := fun W hb => (hW.below (Nat.le_refl _) hb).more hb.size
  have hwl : want.length ≤ 100000 := by
    obtain ⟨_, hok⟩ := treeB_out hv
    have hch := okK_chain hok (k := i + 1) (by omega)
    have h1 := (pth_len hch (by
      obtain ⟨x, hx⟩ : ∃ x, t[i]? = some x := ⟨_, List.getElem?_eq_getElem hi⟩
      rw [back_succ hx]; exact List.cons_ne_nil _ _)).2
    have h2 := (okK_ply hok (k := i + 1) (by omega)).2
    rw [hw] at h1
    omega
  have hpy := Lib.hid (fun W (hb : Below w.heap.size w W) => ppath_yes 4 4 i A t c W (hTH.out W hb) hl hv hi)
  rw [hw] at hpy
  clear hT hW hv hw
  go_enter Try.func26, Try.ntmps26
  go_wp2_with (first
    | (go_at_call 27; refine (pfour _).mono ?_; rintro e w1 ⟨rfl, hb1⟩; replace hb1 := Lib.hid hb1)
    | (go_at_call 9; refine (hpy.out w1 hb1.out).mono ?_; rintro e w2 ⟨A2, c2, rfl, hR2, hb2⟩; replace hR2 := Lib.hid hR2; replace hb2 := Lib.hid (hb1.out.trans (hb2.mono hb1.out.size)))
    | (go_at_call 12; refine (rsameI2 A2 Aw c2 cw want want w2 hR2.out (hWH.out w2 hb2.out) hwl hwl).mono ?_; rw [decide_eq_true (rfl : want = want)]; rintro e w3 ⟨rfl, hb3⟩; replace hb3 := Lib.hid (hb2.out.trans (hb3.mono hb2.out.size))))
  go_ret
  exact ⟨rfl, hb3.out⟩
end Go.Proofs.Yteaclphankckiaa
