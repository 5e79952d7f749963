/- Layer 35: what a move shows: the reference. -/
import Derived.Test.YteaclphankckiaaTab
import Derived.BigRegion
namespace Go.Proofs.Yteaclphankckiaa
open Go Go.RowKit
set_option linter.unusedSimpArgs false
set_option linter.unusedVariables false
attribute [local go_sem ↓] Go.wp_at_zero Go.wp_at_succ

set_option maxRecDepth 100000 in
set_option maxHeartbeats 4000000 in
theorem rshow1 (f q : Int) (bk : Bool) (At : Option Addr) (t : List Nd) (ct i : Nat) (x : Nd) (w : World) (hT : RecAt nEnc 4 w w.heap.size At t) (hl : t.length ≤ 990) (hz : szB f q = true) (hok : okK f q t t.length = true) (hx : t[i]? = some x) :
    Calls Try.prog 38 #[.agg #[.int .i64 f, .int .i64 q], .bool bk, .slice At t.length ct, .int .i64 (i : Int), .int .i64 1] w fun e w' => e = .returned (.bool (s1 x)) ∧ Below w.heap.size w w' := by
  obtain ⟨f0, f1, r0, r1⟩ := szB_out hz
  have hil : i < t.length := (List.getElem?_eq_some_iff.1 hx).1
  have hiI : (i : Int) < (t.length : Int) := by omega
  have hi0 : (0 : Int) ≤ (i : Int) := Int.natCast_nonneg _
  have hnb := nodeB_out (okK_at hok hil hx)
  have hch : chain (back t (i + 1)) := okK_chain hok (k := i + 1) (by omega)
  have hply := okK_ply hok (k := i + 1) (by omega)
  have hbne : back t (i + 1) ≠ [] := by rw [back_succ hx]; exact List.cons_ne_nil _ _
  have htop : top (back t (i + 1)) = x.1 := by rw [back_succ hx]; rfl
  obtain ⟨pl0, pl1⟩ := pth_len hch hbne
  have hpb := Lib.hid (pth_bd hok (k := i + 1) (by omega))
  have hTW : Hid (∀ W, Below w.heap.size w W → RecAt nEnc 4 W W.heap.size At t) := fun W hb => (hT.below (Nat.le_refl _) hb).more hb.size
  obtain ⟨b, off, hAt, hb, e0, _, _, e3⟩ := nd4 hT hx
  subst hAt
  have hS := Lib.hid (Sz2.new w f q 23)
  have hb1 : Hid (Below w.heap.size w (w.alloc (.cells #[.int .i64 f, .int .i64 q] 23))) := (Below.refl _ _).alloc (Nat.le_refl _) _
  have hs1 : w.heap.size < (w.alloc (.cells #[.int .i64 f, .int .i64 q] 23)).heap.size := by simp
  have hxl : x.1 ≤ 1001 := by omega
  have hpc : Hid (∀ W, Below w.heap.size w W → Calls Try.prog 13 #[.slice (some ⟨b, off, none⟩) t.length ct, .int .i64 (i : Int)] W fun e w' => ∃ A c, e = .returned (.slice A (pth (back t (i + 1))).length c) ∧ O1 iEnc 1 W.heap.size 3 W w' A c (pth (back t (i + 1)))) := fun W h => rpath _ t ct i x W (hTW.out W h) (by omega) hx hch hxl
  have hac : Hid (∀ W, Below w.heap.size w W → Calls Try.prog 50 #[.slice (some ⟨b, off, none⟩) t.length ct, .int .i64 (i : Int)] W fun e w' => e = .returned (.bool (allB t i x)) ∧ Below W.heap.size W w') := fun W h => rall f q _ t ct i x W (hTW.out W h) (by omega) hok hx
  have hs3 := Lib.hid (allB_s3 hok hx)
  obtain ⟨l, hle⟩ : ∃ l, pth (back t (i + 1)) = l := ⟨_, rfl⟩
  rw [hle] at hpc hpb pl0 pl1
  (try rw [hle])
  obtain ⟨n1, hn1⟩ : ∃ n1, l.length = n1 + 1 := ⟨l.length - 1, by omega⟩
  have hn1b : n1 ≤ 995 := by omega
  have hn1a : 1 ≤ n1 := by omega
  rw [hn1] at hpc
  have hsn := Lib.hid hn1
  have hxH := Lib.hid hx
  obtain ⟨p, ma, mb, mc⟩ := x
  have hp1 : 1 ≤ p := hnb.2.1
  have hmc : mc = 0 ∨ mc = 2 ∨ mc = 3 ∨ mc = 4 ∨ mc = 5 := by
    have : mc = 0 ∨ 2 ≤ mc ∧ mc ≤ 5 := (mvB_out hnb.1).2.2.2
    omega
  have e0' : w.cell? ⟨b, off + i * 4, none⟩ = some (.int .i64 p) := e0
  have e3' : w.cell? ⟨b, off + i * 4 + 3, none⟩ = some (.int .i8 mc) := e3
  clear hT hok hx hnb hch hply hbne htop hle pl0 pl1 hn1 e0 e3 hxl
  go_enter Try.func38, Try.ntmps38
  go_upto_region 1 with fail
  generalize w.alloc (.cells #[.int .i64 f, .int .i64 q] 23) = w1 at *
  have hwk : IntKind.i64.wrap (((n1 + 1 : Nat) : Int) - 1) = (n1 : Int) := by rw [show ((n1 + 1 : Nat) : Int) - 1 = (n1 : Int) by omega]; exact IntWalk.i64_in _ (by omega)
  go_upto_region 3 with (go_at_call 13; refine (hpc.out w1 hb1.out).mono ?_; rintro e w2 ⟨Ap, cp, rfl, hO⟩; replace hO := Lib.hid hO)
  have hbw := Lib.hid (hb1.out.trans (hO.out.below.mono (by omega)))
  have hS2 := Lib.hid (hS.out.next hO.out.below)
  have hR := Lib.hid (hO.out.recs iEnc_len)
  obtain ⟨bP, oP, hAp, hbP, _⟩ := hR.out (by rw [hsn.out]; omega)
  subst hAp
  have hpg := Lib.hid (recs_getD hR.out)
  have m0 := (hbw.out.cell (p := ⟨b, off + i * 4, none⟩) hb).trans e0'
  have m3 := (hbw.out.cell (p := ⟨b, off + i * 4 + 3, none⟩) hb).trans e3'
  clear hO hpc hb1 hS hs1 hwk e0' e3'
  obtain ⟨sv, hsv⟩ : ∃ sv, (bk == (p % 2 == 1)) = sv := ⟨_, rfl⟩
  have hs : Hid ((mc != 0) = s1 (p, ma, mb, mc)) := by show _ = _; unfold s1 nPr; rw [Bool.eq_iff_iff, bne_iff_ne, decide_eq_true_iff]
  replace hmc := Lib.hid hmc
  go_wp2_with fail
  go_ret
  exact ⟨rb hs.out, hbw.out⟩
set_option maxRecDepth 100000 in
set_option maxHeartbeats 4000000 in
theorem rshow2 (f q : Int) (bk : Bool) (At : Option Addr) (t : List Nd) (ct i : Nat) (x : Nd) (w : World) (hT : RecAt nEnc 4 w w.heap.size At t) (hl : t.length ≤ 990) (hz : szB f q = true) (hok : okK f q t t.length = true) (hx : t[i]? = some x) :
    Calls Try.prog 38 #[.agg #[.int .i64 f, .int .i64 q], .bool bk, .slice At t.length ct, .int .i64 (i : Int), .int .i64 2] w fun e w' => e = .returned (.bool (s2 x)) ∧ Below w.heap.size w w' := by
  obtain ⟨f0, f1, r0, r1⟩ := szB_out hz
  have hil : i < t.length := (List.getElem?_eq_some_iff.1 hx).1
  have hiI : (i : Int) < (t.length : Int) := by omega
  have hi0 : (0 : Int) ≤ (i : Int) := Int.natCast_nonneg _
  have hnb := nodeB_out (okK_at hok hil hx)
  have hch : chain (back t (i + 1)) := okK_chain hok (k := i + 1) (by omega)
  have hply := okK_ply hok (k := i + 1) (by omega)
  have hbne : back t (i + 1) ≠ [] := by rw [back_succ hx]; exact List.cons_ne_nil _ _
  have htop : top (back t (i + 1)) = x.1 := by rw [back_succ hx]; rfl
  obtain ⟨pl0, pl1⟩ := pth_len hch hbne
  have hpb := Lib.hid (pth_bd hok (k := i + 1) (by omega))
  have hTW : Hid (∀ W, Below w.heap.size w W → RecAt nEnc 4 W W.heap.size At t) := fun W hb => (hT.below (Nat.le_refl _) hb).more hb.size
  obtain ⟨b, off, hAt, hb, e0, _, _, e3⟩ := nd4 hT hx
  subst hAt
  have hS := Lib.hid (Sz2.new w f q 23)
  have hb1 : Hid (Below w.heap.size w (w.alloc (.cells #[.int .i64 f, .int .i64 q] 23))) := (Below.refl _ _).alloc (Nat.le_refl _) _
  have hs1 : w.heap.size < (w.alloc (.cells #[.int .i64 f, .int .i64 q] 23)).heap.size := by simp
  have hxl : x.1 ≤ 1001 := by omega
  have hpc : Hid (∀ W, Below w.heap.size w W → Calls Try.prog 13 #[.slice (some ⟨b, off, none⟩) t.length ct, .int .i64 (i : Int)] W fun e w' => ∃ A c, e = .returned (.slice A (pth (back t (i + 1))).length c) ∧ O1 iEnc 1 W.heap.size 3 W w' A c (pth (back t (i + 1)))) := fun W h => rpath _ t ct i x W (hTW.out W h) (by omega) hx hch hxl
  have hac : Hid (∀ W, Below w.heap.size w W → Calls Try.prog 50 #[.slice (some ⟨b, off, none⟩) t.length ct, .int .i64 (i : Int)] W fun e w' => e = .returned (.bool (allB t i x)) ∧ Below W.heap.size W w') := fun W h => rall f q _ t ct i x W (hTW.out W h) (by omega) hok hx
  have hs3 := Lib.hid (allB_s3 hok hx)
  obtain ⟨l, hle⟩ : ∃ l, pth (back t (i + 1)) = l := ⟨_, rfl⟩
  rw [hle] at hpc hpb pl0 pl1
  (try rw [hle])
  obtain ⟨n1, hn1⟩ : ∃ n1, l.length = n1 + 1 := ⟨l.length - 1, by omega⟩
  have hn1b : n1 ≤ 995 := by omega
  have hn1a : 1 ≤ n1 := by omega
  rw [hn1] at hpc
  have hsn := Lib.hid hn1
  have hxH := Lib.hid hx
  obtain ⟨p, ma, mb, mc⟩ := x
  have hp1 : 1 ≤ p := hnb.2.1
  have hmc : mc = 0 ∨ mc = 2 ∨ mc = 3 ∨ mc = 4 ∨ mc = 5 := by
    have : mc = 0 ∨ 2 ≤ mc ∧ mc ≤ 5 := (mvB_out hnb.1).2.2.2
    omega
  have e0' : w.cell? ⟨b, off + i * 4, none⟩ = some (.int .i64 p) := e0
  have e3' : w.cell? ⟨b, off + i * 4 + 3, none⟩ = some (.int .i8 mc) := e3
  clear hT hok hx hnb hch hply hbne htop hle pl0 pl1 hn1 e0 e3 hxl
  go_enter Try.func38, Try.ntmps38
  go_upto_region 1 with fail
  generalize w.alloc (.cells #[.int .i64 f, .int .i64 q] 23) = w1 at *
  have hwk : IntKind.i64.wrap (((n1 + 1 : Nat) : Int) - 1) = (n1 : Int) := by rw [show ((n1 + 1 : Nat) : Int) - 1 = (n1 : Int) by omega]; exact IntWalk.i64_in _ (by omega)
  go_upto_region 3 with (go_at_call 13; refine (hpc.out w1 hb1.out).mono ?_; rintro e w2 ⟨Ap, cp, rfl, hO⟩; replace hO := Lib.hid hO)
  have hbw := Lib.hid (hb1.out.trans (hO.out.below.mono (by omega)))
  have hS2 := Lib.hid (hS.out.next hO.out.below)
  have hR := Lib.hid (hO.out.recs iEnc_len)
  obtain ⟨bP, oP, hAp, hbP, _⟩ := hR.out (by rw [hsn.out]; omega)
  subst hAp
  have hpg := Lib.hid (recs_getD hR.out)
  have m0 := (hbw.out.cell (p := ⟨b, off + i * 4, none⟩) hb).trans e0'
  have m3 := (hbw.out.cell (p := ⟨b, off + i * 4 + 3, none⟩) hb).trans e3'
  clear hO hpc hb1 hS hs1 hwk e0' e3'
  obtain ⟨sv, hsv⟩ : ∃ sv, (bk == (p % 2 == 1)) = sv := ⟨_, rfl⟩
  rcases hmc with rfl | rfl | rfl | rfl | rfl
  all_goals
    go_wp2_with fail
    go_ret
    exact ⟨rb rfl, hbw.out⟩
set_option maxRecDepth 100000 in
set_option maxHeartbeats 4000000 in
theorem rshow3 (f q : Int) (bk : Bool) (At : Option Addr) (t : List Nd) (ct i : Nat) (x : Nd) (w : World) (hT : RecAt nEnc 4 w w.heap.size At t) (hl : t.length ≤ 990) (hz : szB f q = true) (hok : okK f q t t.length = true) (hx : t[i]? = some x) :
    Calls Try.prog 38 #[.agg #[.int .i64 f, .int .i64 q], .bool bk, .slice At t.length ct, .int .i64 (i : Int), .int .i64 3] w fun e w' => e = .returned (.bool (s3 x (kin t i))) ∧ Below w.heap.size w w' := by
  obtain ⟨f0, f1, r0, r1⟩ := szB_out hz
  have hil : i < t.length := (List.getElem?_eq_some_iff.1 hx).1
  have hiI : (i : Int) < (t.length : Int) := by omega
  have hi0 : (0 : Int) ≤ (i : Int) := Int.natCast_nonneg _
  have hnb := nodeB_out (okK_at hok hil hx)
  have hch : chain (back t (i + 1)) := okK_chain hok (k := i + 1) (by omega)
  have hply := okK_ply hok (k := i + 1) (by omega)
  have hbne : back t (i + 1) ≠ [] := by rw [back_succ hx]; exact List.cons_ne_nil _ _
  have htop : top (back t (i + 1)) = x.1 := by rw [back_succ hx]; rfl
  obtain ⟨pl0, pl1⟩ := pth_len hch hbne
  have hpb := Lib.hid (pth_bd hok (k := i + 1) (by omega))
  have hTW : Hid (∀ W, Below w.heap.size w W → RecAt nEnc 4 W W.heap.size At t) := fun W hb => (hT.below (Nat.le_refl _) hb).more hb.size
  obtain ⟨b, off, hAt, hb, e0, _, _, e3⟩ := nd4 hT hx
  subst hAt
  have hS := Lib.hid (Sz2.new w f q 23)
  have hb1 : Hid (Below w.heap.size w (w.alloc (.cells #[.int .i64 f, .int .i64 q] 23))) := (Below.refl _ _).alloc (Nat.le_refl _) _
  have hs1 : w.heap.size < (w.alloc (.cells #[.int .i64 f, .int .i64 q] 23)).heap.size := by simp
  have hxl : x.1 ≤ 1001 := by omega
  have hpc : Hid (∀ W, Below w.heap.size w W → Calls Try.prog 13 #[.slice (some ⟨b, off, none⟩) t.length ct, .int .i64 (i : Int)] W fun e w' => ∃ A c, e = .returned (.slice A (pth (back t (i + 1))).length c) ∧ O1 iEnc 1 W.heap.size 3 W w' A c (pth (back t (i + 1)))) := fun W h => rpath _ t ct i x W (hTW.out W h) (by omega) hx hch hxl
  have hac : Hid (∀ W, Below w.heap.size w W → Calls Try.prog 50 #[.slice (some ⟨b, off, none⟩) t.length ct, .int .i64 (i : Int)] W fun e w' => e = .returned (.bool (allB t i x)) ∧ Below W.heap.size W w') := fun W h => rall f q _ t ct i x W (hTW.out W h) (by omega) hok hx
  have hs3 := Lib.hid (allB_s3 hok hx)
  obtain ⟨l, hle⟩ : ∃ l, pth (back t (i + 1)) = l := ⟨_, rfl⟩
  rw [hle] at hpc hpb pl0 pl1
  (try rw [hle])
  obtain ⟨n1, hn1⟩ : ∃ n1, l.length = n1 + 1 := ⟨l.length - 1, by omega⟩
  have hn1b : n1 ≤ 995 := by omega
  have hn1a : 1 ≤ n1 := by omega
  rw [hn1] at hpc
  have hsn := Lib.hid hn1
  have hxH := Lib.hid hx
  obtain ⟨p, ma, mb, mc⟩ := x
  have hp1 : 1 ≤ p := hnb.2.1
  have hmc : mc = 0 ∨ mc = 2 ∨ mc = 3 ∨ mc = 4 ∨ mc = 5 := by
    have : mc = 0 ∨ 2 ≤ mc ∧ mc ≤ 5 := (mvB_out hnb.1).2.2.2
    omega
  have e0' : w.cell? ⟨b, off + i * 4, none⟩ = some (.int .i64 p) := e0
  have e3' : w.cell? ⟨b, off + i * 4 + 3, none⟩ = some (.int .i8 mc) := e3
  clear hT hok hx hnb hch hply hbne htop hle pl0 pl1 hn1 e0 e3 hxl
  go_enter Try.func38, Try.ntmps38
  go_upto_region 1 with fail
  generalize w.alloc (.cells #[.int .i64 f, .int .i64 q] 23) = w1 at *
  have hwk : IntKind.i64.wrap (((n1 + 1 : Nat) : Int) - 1) = (n1 : Int) := by rw [show ((n1 + 1 : Nat) : Int) - 1 = (n1 : Int) by omega]; exact IntWalk.i64_in _ (by omega)
  go_upto_region 3 with (go_at_call 13; refine (hpc.out w1 hb1.out).mono ?_; rintro e w2 ⟨Ap, cp, rfl, hO⟩; replace hO := Lib.hid hO)
  have hbw := Lib.hid (hb1.out.trans (hO.out.below.mono (by omega)))
  have hS2 := Lib.hid (hS.out.next hO.out.below)
  have hR := Lib.hid (hO.out.recs iEnc_len)
  obtain ⟨bP, oP, hAp, hbP, _⟩ := hR.out (by rw [hsn.out]; omega)
  subst hAp
  have hpg := Lib.hid (recs_getD hR.out)
  have m0 := (hbw.out.cell (p := ⟨b, off + i * 4, none⟩) hb).trans e0'
  have m3 := (hbw.out.cell (p := ⟨b, off + i * 4 + 3, none⟩) hb).trans e3'
  clear hO hpc hb1 hS hs1 hwk e0' e3'
  obtain ⟨sv, hsv⟩ : ∃ sv, (bk == (p % 2 == 1)) = sv := ⟨_, rfl⟩
  replace hmc := Lib.hid hmc
  go_wp2_with (go_at_call 50; refine (hac.out w2 hbw.out).mono ?_; rintro e w3 ⟨rfl, hb3⟩; replace hb3 := Lib.hid (hbw.out.trans (hb3.mono hbw.out.size)))
  go_ret
  exact ⟨rb hs3.out, hb3.out⟩
set_option maxRecDepth 100000 in
set_option maxHeartbeats 4000000 in
theorem rshow4 (f q : Int) (bk : Bool) (At : Option Addr) (t : List Nd) (ct i : Nat) (x : Nd) (w : World) (hT : RecAt nEnc 4 w w.heap.size At t) (hl : t.length ≤ 990) (hz : szB f q = true) (hok : okK f q t t.length = true) (hx : t[i]? = some x) :
    Calls Try.prog 38 #[.agg #[.int .i64 f, .int .i64 q], .bool bk, .slice At t.length ct, .int .i64 (i : Int), .int .i64 4] w fun e w' => e = .returned (.bool (s4 (pth (back t (i + 1))))) ∧ Below w.heap.size w w' := by
  obtain ⟨f0, f1, r0, r1⟩ := szB_out hz
  have hil : i < t.length := (List.getElem?_eq_some_iff.1 hx).1
  have hiI : (i : Int) < (t.length : Int) := by omega
  have hi0 : (0 : Int) ≤ (i : Int) := Int.natCast_nonneg _
  have hnb := nodeB_out (okK_at hok hil hx)
  have hch : chain (back t (i + 1)) := okK_chain hok (k := i + 1) (by omega)
  have hply := okK_ply hok (k := i + 1) (by omega)
  have hbne : back t (i + 1) ≠ [] := by rw [back_succ hx]; exact List.cons_ne_nil _ _
  have htop : top (back t (i + 1)) = x.1 := by rw [back_succ hx]; rfl
  obtain ⟨pl0, pl1⟩ := pth_len hch hbne
  have hpb := Lib.hid (pth_bd hok (k := i + 1) (by omega))
  have hTW : Hid (∀ W, Below w.heap.size w W → RecAt nEnc 4 W W.heap.size At t) := fun W hb => (hT.below (Nat.le_refl _) hb).more hb.size
  obtain ⟨b, off, hAt, hb, e0, _, _, e3⟩ := nd4 hT hx
  subst hAt
  have hS := Lib.hid (Sz2.new w f q 23)
  have hb1 : Hid (Below w.heap.size w (w.alloc (.cells #[.int .i64 f, .int .i64 q] 23))) := (Below.refl _ _).alloc (Nat.le_refl _) _
  have hs1 : w.heap.size < (w.alloc (.cells #[.int .i64 f, .int .i64 q] 23)).heap.size := by simp
  have hxl : x.1 ≤ 1001 := by omega
  have hpc : Hid (∀ W, Below w.heap.size w W → Calls Try.prog 13 #[.slice (some ⟨b, off, none⟩) t.length ct, .int .i64 (i : Int)] W fun e w' => ∃ A c, e = .returned (.slice A (pth (back t (i + 1))).length c) ∧ O1 iEnc 1 W.heap.size 3 W w' A c (pth (back t (i + 1)))) := fun W h => rpath _ t ct i x W (hTW.out W h) (by omega) hx hch hxl
  have hac : Hid (∀ W, Below w.heap.size w W → Calls Try.prog 50 #[.slice (some ⟨b, off, none⟩) t.length ct, .int .i64 (i : Int)] W fun e w' => e = .returned (.bool (allB t i x)) ∧ Below W.heap.size W w') := fun W h => rall f q _ t ct i x W (hTW.out W h) (by omega) hok hx
  have hs3 := Lib.hid (allB_s3 hok hx)
  obtain ⟨l, hle⟩ : ∃ l, pth (back t (i + 1)) = l := ⟨_, rfl⟩
  rw [hle] at hpc hpb pl0 pl1
  (try rw [hle])
  obtain ⟨n1, hn1⟩ : ∃ n1, l.length = n1 + 1 := ⟨l.length - 1, by omega⟩
  have hn1b : n1 ≤ 995 := by omega
  have hn1a : 1 ≤ n1 := by omega
  rw [hn1] at hpc
  have hsn := Lib.hid hn1
  have hxH := Lib.hid hx
  obtain ⟨p, ma, mb, mc⟩ := x
  have hp1 : 1 ≤ p := hnb.2.1
  have hmc : mc = 0 ∨ mc = 2 ∨ mc = 3 ∨ mc = 4 ∨ mc = 5 := by
    have : mc = 0 ∨ 2 ≤ mc ∧ mc ≤ 5 := (mvB_out hnb.1).2.2.2
    omega
  have e0' : w.cell? ⟨b, off + i * 4, none⟩ = some (.int .i64 p) := e0
  have e3' : w.cell? ⟨b, off + i * 4 + 3, none⟩ = some (.int .i8 mc) := e3
  clear hT hok hx hnb hch hply hbne htop hle pl0 pl1 hn1 e0 e3 hxl
  go_enter Try.func38, Try.ntmps38
  go_upto_region 1 with fail
  generalize w.alloc (.cells #[.int .i64 f, .int .i64 q] 23) = w1 at *
  have hwk : IntKind.i64.wrap (((n1 + 1 : Nat) : Int) - 1) = (n1 : Int) := by rw [show ((n1 + 1 : Nat) : Int) - 1 = (n1 : Int) by omega]; exact IntWalk.i64_in _ (by omega)
  go_upto_region 3 with (go_at_call 13; refine (hpc.out w1 hb1.out).mono ?_; rintro e w2 ⟨Ap, cp, rfl, hO⟩; replace hO := Lib.hid hO)
  have hbw := Lib.hid (hb1.out.trans (hO.out.below.mono (by omega)))
  have hS2 := Lib.hid (hS.out.next hO.out.below)
  have hR := Lib.hid (hO.out.recs iEnc_len)
  obtain ⟨bP, oP, hAp, hbP, _⟩ := hR.out (by rw [hsn.out]; omega)
  subst hAp
  have hpg := Lib.hid (recs_getD hR.out)
  have m0 := (hbw.out.cell (p := ⟨b, off + i * 4, none⟩) hb).trans e0'
  have m3 := (hbw.out.cell (p := ⟨b, off + i * 4 + 3, none⟩) hb).trans e3'
  clear hO hpc hb1 hS hs1 hwk e0' e3'
  obtain ⟨sv, hsv⟩ : ∃ sv, (bk == (p % 2 == 1)) = sv := ⟨_, rfl⟩
  have hpal : Hid (∀ W, Below w2.heap.size w2 W → Calls Try.prog 51 #[.slice (some ⟨bP, oP, none⟩) (n1 + 1) cp] W fun e w' => e = .returned (.bool (pal l)) ∧ Below W.heap.size W w') := fun W h => by
    have h2 := rpal (some ⟨bP, oP, none⟩) cp l W ((hR.out.below (Nat.le_refl _) h).more h.size) (by rw [hsn.out]; omega)
    rw [hsn.out] at h2
    exact h2
  replace hmc := Lib.hid hmc
  by_cases h2 : 2 ≤ n1
  · have hd2 : decide ((2 : Int) ≤ (n1 : Int)) = true := decide_eq_true (by omega)
    have h2' : (2 : Int) ≤ (n1 : Int) := by omega
    have hs : Hid (pal l = s4 l) := by show _ = _; unfold s4; rw [decide_eq_true (show 3 ≤ l.length by rw [hsn.out]; omega), Bool.true_and]
    go_wp2_with (go_at_call 51; refine (hpal.out w2 (Below.refl _ _)).mono ?_; rintro e w3 ⟨rfl, hb3⟩; replace hb3 := Lib.hid (hbw.out.trans (hb3.mono hbw.out.size)))
    go_ret
    exact ⟨rb hs.out, hb3.out⟩
  · have hd2 : decide ((2 : Int) ≤ (n1 : Int)) = false := decide_eq_false (by omega)
    have hs : Hid (s4 l = false) := by show _ = _; unfold s4; rw [decide_eq_false (show ¬ 3 ≤ l.length by rw [hsn.out]; omega), Bool.false_and]
    go_wp2_with fail
    go_ret
    exact ⟨rb hs.out.symm, hbw.out⟩
set_option maxRecDepth 100000 in
set_option maxHeartbeats 4000000 in
theorem rshow5 (f q : Int) (bk : Bool) (At : Option Addr) (t : List Nd) (ct i : Nat) (x : Nd) (w : World) (hT : RecAt nEnc 4 w w.heap.size At t) (hl : t.length ≤ 990) (hz : szB f q = true) (hok : okK f q t t.length = true) (hx : t[i]? = some x) :
    Calls Try.prog 38 #[.agg #[.int .i64 f, .int .i64 q], .bool bk, .slice At t.length ct, .int .i64 (i : Int), .int .i64 5] w fun e w' => e = .returned (.bool (s5 (pth (back t (i + 1))))) ∧ Below w.heap.size w w' := by
  obtain ⟨f0, f1, r0, r1⟩ := szB_out hz
  have hil : i < t.length := (List.getElem?_eq_some_iff.1 hx).1
  have hiI : (i : Int) < (t.length : Int) := by omega
  have hi0 : (0 : Int) ≤ (i : Int) := Int.natCast_nonneg _
  have hnb := nodeB_out (okK_at hok hil hx)
  have hch : chain (back t (i + 1)) := okK_chain hok (k := i + 1) (by omega)
  have hply := okK_ply hok (k := i + 1) (by omega)
  have hbne : back t (i + 1) ≠ [] := by rw [back_succ hx]; exact List.cons_ne_nil _ _
  have htop : top (back t (i + 1)) = x.1 := by rw [back_succ hx]; rfl
  obtain ⟨pl0, pl1⟩ := pth_len hch hbne
  have hpb := Lib.hid (pth_bd hok (k := i + 1) (by omega))
  have hTW : Hid (∀ W, Below w.heap.size w W → RecAt nEnc 4 W W.heap.size At t) := fun W hb => (hT.below (Nat.le_refl _) hb).more hb.size
  obtain ⟨b, off, hAt, hb, e0, _, _, e3⟩ := nd4 hT hx
  subst hAt
  have hS := Lib.hid (Sz2.new w f q 23)
  have hb1 : Hid (Below w.heap.size w (w.alloc (.cells #[.int .i64 f, .int .i64 q] 23))) := (Below.refl _ _).alloc (Nat.le_refl _) _
  have hs1 : w.heap.size < (w.alloc (.cells #[.int .i64 f, .int .i64 q] 23)).heap.size := by simp
  have hxl : x.1 ≤ 1001 := by omega
  have hpc : Hid (∀ W, Below w.heap.size w W → Calls Try.prog 13 #[.slice (some ⟨b, off, none⟩) t.length ct, .int .i64 (i : Int)] W fun e w' => ∃ A c, e = .returned (.slice A (pth (back t (i + 1))).length c) ∧ O1 iEnc 1 W.heap.size 3 W w' A c (pth (back t (i + 1)))) := fun W h => rpath _ t ct i x W (hTW.out W h) (by omega) hx hch hxl
  have hac : Hid (∀ W, Below w.heap.size w W → Calls Try.prog 50 #[.slice (some ⟨b, off, none⟩) t.length ct, .int .i64 (i : Int)] W fun e w' => e = .returned (.bool (allB t i x)) ∧ Below W.heap.size W w') := fun W h => rall f q _ t ct i x W (hTW.out W h) (by omega) hok hx
  have hs3 := Lib.hid (allB_s3 hok hx)
  obtain ⟨l, hle⟩ : ∃ l, pth (back t (i + 1)) = l := ⟨_, rfl⟩
  rw [hle] at hpc hpb pl0 pl1
  (try rw [hle])
  obtain ⟨n1, hn1⟩ : ∃ n1, l.length = n1 + 1 := ⟨l.length - 1, by omega⟩
  have hn1b : n1 ≤ 995 := by omega
  have hn1a : 1 ≤ n1 := by omega
  rw [hn1] at hpc
  have hsn := Lib.hid hn1
  have hxH := Lib.hid hx
  obtain ⟨p, ma, mb, mc⟩ := x
  have hp1 : 1 ≤ p := hnb.2.1
  have hmc : mc = 0 ∨ mc = 2 ∨ mc = 3 ∨ mc = 4 ∨ mc = 5 := by
    have : mc = 0 ∨ 2 ≤ mc ∧ mc ≤ 5 := (mvB_out hnb.1).2.2.2
    omega
  have e0' : w.cell? ⟨b, off + i * 4, none⟩ = some (.int .i64 p) := e0
  have e3' : w.cell? ⟨b, off + i * 4 + 3, none⟩ = some (.int .i8 mc) := e3
  clear hT hok hx hnb hch hply hbne htop hle pl0 pl1 hn1 e0 e3 hxl
  go_enter Try.func38, Try.ntmps38
  go_upto_region 1 with fail
  generalize w.alloc (.cells #[.int .i64 f, .int .i64 q] 23) = w1 at *
  have hwk : IntKind.i64.wrap (((n1 + 1 : Nat) : Int) - 1) = (n1 : Int) := by rw [show ((n1 + 1 : Nat) : Int) - 1 = (n1 : Int) by omega]; exact IntWalk.i64_in _ (by omega)
  go_upto_region 3 with (go_at_call 13; refine (hpc.out w1 hb1.out).mono ?_; rintro e w2 ⟨Ap, cp, rfl, hO⟩; replace hO := Lib.hid hO)
  have hbw := Lib.hid (hb1.out.trans (hO.out.below.mono (by omega)))
  have hS2 := Lib.hid (hS.out.next hO.out.below)
  have hR := Lib.hid (hO.out.recs iEnc_len)
  obtain ⟨bP, oP, hAp, hbP, _⟩ := hR.out (by rw [hsn.out]; omega)
  subst hAp
  have hpg := Lib.hid (recs_getD hR.out)
  have m0 := (hbw.out.cell (p := ⟨b, off + i * 4, none⟩) hb).trans e0'
  have m3 := (hbw.out.cell (p := ⟨b, off + i * 4 + 3, none⟩) hb).trans e3'
  clear hO hpc hb1 hS hs1 hwk e0' e3'
  obtain ⟨sv, hsv⟩ : ∃ sv, (bk == (p % 2 == 1)) = sv := ⟨_, rfl⟩
  have hpal : Hid (∀ W, Below w2.heap.size w2 W → Calls Try.prog 51 #[.slice (some ⟨bP, oP, none⟩) (n1 + 1) cp] W fun e w' => e = .returned (.bool (pal l)) ∧ Below W.heap.size W w') := fun W h => by
    have h2 := rpal (some ⟨bP, oP, none⟩) cp l W ((hR.out.below (Nat.le_refl _) h).more h.size) (by rw [hsn.out]; omega)
    rw [hsn.out] at h2
    exact h2
  obtain ⟨first, hfi⟩ : ∃ first, l.getD 0 0 = first := ⟨_, rfl⟩
  obtain ⟨last, hla⟩ : ∃ last, l.getD n1 0 = last := ⟨_, rfl⟩
  have hfb : 0 ≤ first ∧ first < 64 := by
    have h1 : l[0]? = some first := by rw [← hfi, List.getD, List.getElem?_eq_getElem (show 0 < l.length by rw [hsn.out]; omega)]; rfl
    exact hpb.out first (List.mem_of_getElem? h1)
  have hn0 : (0 : Int) ≤ (n1 : Int) := Int.natCast_nonneg _
  have hn1I : (n1 : Int) < ((n1 + 1 : Nat) : Int) := by omega
  have hn1p : 0 < n1 + 1 := Nat.succ_pos _
  have hn1J : (n1 : Int) < (n1 : Int) + 1 := by omega
  have hn1K : (0 : Int) < (n1 : Int) + 1 := by omega
  have hg1 := hpg.out n1 (by rw [hsn.out]; omega)
  have hg0 := hpg.out 0 (by rw [hsn.out]; omega)
  rw [hla] at hg1
  rw [hfi, Nat.add_zero] at hg0
  have hSS : Hid (∀ W, Below w2.heap.size w2 W → W.cell? ⟨bP, oP + n1, none⟩ = some (.int .i64 last) ∧ W.cell? ⟨bP, oP, none⟩ = some (.int .i64 first)) := fun W h => ⟨(h.cell (p := ⟨bP, oP + n1, none⟩) hbP).trans hg1, (h.cell (p := ⟨bP, oP, none⟩) hbP).trans hg0⟩
  have hs5 : Hid (s5 l = (decide (3 ≤ n1) && (decide (last = first) && !(pal l)))) := by
    show _ = _
    unfold s5
    rw [hsn.out, Nat.add_sub_cancel, hla, hfi]
    congr 1
    rw [decide_eq_decide]
    omega
  replace hla := Lib.hid hla
  replace hfi := Lib.hid hfi
  replace hmc := Lib.hid hmc
  go_upto_region 15 with fail
  clear hg0 hg1
  by_cases h3 : 3 ≤ n1
  · have hd3 : decide ((3 : Int) ≤ (n1 : Int)) = true := decide_eq_true (by omega)
    have h3' : (3 : Int) ≤ (n1 : Int) := by omega
    by_cases hlf : last = first
    · have hlfb : (last == first) = true := by rw [hlf]; exact beq_self_eq_true _
      have hs : Hid ((!(pal l)) = s5 l) := by show _ = _; rw [hs5.out, decide_eq_true h3, decide_eq_true hlf, Bool.true_and, Bool.true_and]
      replace hlf := Lib.hid hlf
      refine wp_region_held_drew (S := (fun W' => W'.cell? ⟨bP, oP + n1, none⟩ = some (.int .i64 last) ∧ W'.cell? ⟨bP, oP, none⟩ = some (.int .i64 first))) (by kernel_rfl) (hSS.out _ (Below.refl _ _).drew) (fun hHeld => ?_)
      refine wpAnyH_take (i := 0) (v := ?_) rfl (by kernel_rfl) (by kernel_rfl) (by kernel_rfl) (fun _ _ _ h => h) (Or.inl ⟨by rfl, ?_⟩) hHeld ?_
      rotate_left
      · intro W9 hSw; (try dsimp only at hSw); go_simp; (try with_reducible rfl)
      simp only [Act.put, List.getElem_toArray, List.getElem_cons_zero, List.getElem_cons_succ, List.setIfInBounds_toArray, List.set_cons_zero, List.set_cons_succ]
      refine wpAnyH_take (i := 1) (v := ?_) rfl (by kernel_rfl) (by kernel_rfl) (by kernel_rfl) (fun _ _ _ h => h) (Or.inl ⟨by rfl, ?_⟩) hHeld ?_
      rotate_left
      · intro W9 hSw; (try dsimp only at hSw); go_simp; (try with_reducible rfl)
      simp only [Act.put, List.getElem_toArray, List.getElem_cons_zero, List.getElem_cons_succ, List.setIfInBounds_toArray, List.set_cons_zero, List.set_cons_succ]
      refine wpAnyH_take (i := 2) (v := ?_) rfl (by kernel_rfl) (by kernel_rfl) (by kernel_rfl) (fun _ _ _ h => h) (Or.inl ⟨by rfl, ?_⟩) hHeld ?_
      rotate_left
      · intro W9 hSw; (try dsimp only at hSw); go_simp; (try with_reducible rfl)
      simp only [Act.put, List.getElem_toArray, List.getElem_cons_zero, List.getElem_cons_succ, List.setIfInBounds_toArray, List.set_cons_zero, List.set_cons_succ]
      refine wpAnyH_take (i := 3) (v := ?_) rfl (by kernel_rfl) (by kernel_rfl) (by kernel_rfl) (fun _ _ _ h => h) (Or.inl ⟨by rfl, ?_⟩) hHeld ?_
      rotate_left
      · intro W9 hSw; (try dsimp only at hSw); go_simp; (try with_reducible rfl)
      simp only [Act.put, List.getElem_toArray, List.getElem_cons_zero, List.getElem_cons_succ, List.setIfInBounds_toArray, List.set_cons_zero, List.set_cons_succ]
      refine wpAnyH_take (i := 4) (v := ?_) rfl (by kernel_rfl) (by kernel_rfl) (by kernel_rfl) (fun _ _ _ h => h) (Or.inl ⟨by rfl, ?_⟩) hHeld ?_
      rotate_left
      · intro W9 hSw; (try dsimp only at hSw); go_simp; (try with_reducible rfl)
      simp only [Act.put, List.getElem_toArray, List.getElem_cons_zero, List.getElem_cons_succ, List.setIfInBounds_toArray, List.set_cons_zero, List.set_cons_succ]
      refine wpAnyH_take (i := 5) (v := ?_) rfl (by kernel_rfl) (by kernel_rfl) (by kernel_rfl) (fun _ _ _ h => h) (Or.inl ⟨by rfl, ?_⟩) hHeld ?_
      rotate_left
      · intro W9 hSw; (try dsimp only at hSw); go_simp; (try with_reducible rfl)
      simp only [Act.put, List.getElem_toArray, List.getElem_cons_zero, List.getElem_cons_succ, List.setIfInBounds_toArray, List.set_cons_zero, List.set_cons_succ]
      refine wpAnyH_take (i := 6) (v := ?_) rfl (by kernel_rfl) (by kernel_rfl) (by kernel_rfl) (fun _ _ _ h => h) (Or.inl ⟨by rfl, ?_⟩) hHeld ?_
      rotate_left
      · intro W9 hSw; (try dsimp only at hSw); go_simp; (try with_reducible rfl)
      simp only [Act.put, List.getElem_toArray, List.getElem_cons_zero, List.getElem_cons_succ, List.setIfInBounds_toArray, List.set_cons_zero, List.set_cons_succ]
      refine wpAnyH_take (i := 7) (v := ?_) rfl (by kernel_rfl) (by kernel_rfl) (by kernel_rfl) (fun _ _ _ h => h) (Or.inl ⟨by rfl, ?_⟩) hHeld ?_
      rotate_left
      · intro W9 hSw; (try dsimp only at hSw); go_simp; (try with_reducible rfl)
      simp only [Act.put, List.getElem_toArray, List.getElem_cons_zero, List.getElem_cons_succ, List.setIfInBounds_toArray, List.set_cons_zero, List.set_cons_succ]
      refine wpAnyH_take (i := 8) (v := ?_) rfl (by kernel_rfl) (by kernel_rfl) (by kernel_rfl) (fun _ _ _ h => h) (Or.inl ⟨by rfl, ?_⟩) hHeld ?_
      rotate_left
      · intro W9 hSw; (try dsimp only at hSw); go_simp; (try with_reducible rfl)
      simp only [Act.put, List.getElem_toArray, List.getElem_cons_zero, List.getElem_cons_succ, List.setIfInBounds_toArray, List.set_cons_zero, List.set_cons_succ]
      refine wpAnyH_take (i := 9) (v := ?_) rfl (by kernel_rfl) (by kernel_rfl) (by kernel_rfl) (fun _ _ _ h => h) (Or.inl ⟨by rfl, ?_⟩) hHeld ?_
      rotate_left
      · intro W9 hSw; (try dsimp only at hSw); go_simp; (try with_reducible rfl)
      simp only [Act.put, List.getElem_toArray, List.getElem_cons_zero, List.getElem_cons_succ, List.setIfInBounds_toArray, List.set_cons_zero, List.set_cons_succ]
      refine wpAnyH_take (i := 10) (v := ?_) rfl (by kernel_rfl) (by kernel_rfl) (by kernel_rfl) (fun _ _ _ h => h) (Or.inl ⟨by rfl, ?_⟩) hHeld ?_
      rotate_left
      · intro W9 hSw; (try dsimp only at hSw); go_simp; (try with_reducible rfl)
      simp only [Act.put, List.getElem_toArray, List.getElem_cons_zero, List.getElem_cons_succ, List.setIfInBounds_toArray, List.set_cons_zero, List.set_cons_succ]
      refine wpAnyH_take (i := 11) (v := ?_) rfl (by kernel_rfl) (by kernel_rfl) (by kernel_rfl) (fun _ _ _ h => h) (Or.inl ⟨by rfl, ?_⟩) hHeld ?_
      rotate_left
      · intro W9 hSw; (try dsimp only at hSw); go_simp; (try with_reducible rfl)
      simp only [Act.put, List.getElem_toArray, List.getElem_cons_zero, List.getElem_cons_succ, List.setIfInBounds_toArray, List.set_cons_zero, List.set_cons_succ]
      refine wpAnyH_take (i := 12) (v := ?_) rfl (by kernel_rfl) (by kernel_rfl) (by kernel_rfl) (fun _ _ _ h => h) (Or.inl ⟨by rfl, ?_⟩) hHeld ?_
      rotate_left
      · intro W9 hSw; (try dsimp only at hSw); go_simp; (try with_reducible rfl)
      simp only [Act.put, List.getElem_toArray, List.getElem_cons_zero, List.getElem_cons_succ, List.setIfInBounds_toArray, List.set_cons_zero, List.set_cons_succ]
      refine wpAnyH_take (i := 13) (v := ?_) rfl (by kernel_rfl) (by kernel_rfl) (by kernel_rfl) (fun _ _ _ h => h) (Or.inl ⟨by rfl, ?_⟩) hHeld ?_
      rotate_left
      · intro W9 hSw; (try dsimp only at hSw); go_simp; (try with_reducible rfl)
      simp only [Act.put, List.getElem_toArray, List.getElem_cons_zero, List.getElem_cons_succ, List.setIfInBounds_toArray, List.set_cons_zero, List.set_cons_succ]
      refine wpAnyH_ready (rs := [14]) (by kernel_rfl) (by simp) ?_
      refine AllReadyH.cons rfl (fun K hK => ?_) AllReadyH.nil
      go_simp
      go_at_call 51
      refine (hpal.out (World.drew w2) (Below.refl _ _).drew).mono ?_
      rintro e w3 ⟨rfl, hb3⟩
      replace hb3 : Hid (Below w2.heap.size w2 w3) := undrew hb3
      refine hK.out _ _ (hSS.out _ hb3.out) (fun hHeld2 => ?_)
      clear hK K hHeld
      have hHeld := hHeld2
      clear hHeld2
      refine wpAnyH_take (i := 15) (v := ?_) rfl (by kernel_rfl) (by kernel_rfl) (by kernel_rfl) (fun _ _ _ h => h) (Or.inl ⟨by rfl, ?_⟩) hHeld ?_
      rotate_left
      · intro W9 hSw; (try dsimp only at hSw); go_simp; (try with_reducible rfl)
      simp only [Act.put, List.getElem_toArray, List.getElem_cons_zero, List.getElem_cons_succ, List.setIfInBounds_toArray, List.set_cons_zero, List.set_cons_succ]
      refine wpAnyH_take (i := 16) (v := ?_) rfl (by kernel_rfl) (by kernel_rfl) (by kernel_rfl) (fun _ _ _ h => h) (Or.inl ⟨by rfl, ?_⟩) hHeld ?_
      rotate_left
      · intro W9 hSw; (try dsimp only at hSw); go_simp; (try with_reducible rfl)
      simp only [Act.put, List.getElem_toArray, List.getElem_cons_zero, List.getElem_cons_succ, List.setIfInBounds_toArray, List.set_cons_zero, List.set_cons_succ]
      refine wpAnyH_take (i := 17) (v := ?_) rfl (by kernel_rfl) (by kernel_rfl) (by kernel_rfl) (fun _ _ _ h => h) (Or.inl ⟨by rfl, ?_⟩) hHeld ?_
      rotate_left
      · intro W9 hSw; (try dsimp only at hSw); go_simp; (try with_reducible rfl)
      simp only [Act.put, List.getElem_toArray, List.getElem_cons_zero, List.getElem_cons_succ, List.setIfInBounds_toArray, List.set_cons_zero, List.set_cons_succ]
      refine wpAnyH_done (by kernel_rfl) ?_ _
      go_wp2_with fail
      go_ret
      exact ⟨rb hs.out, hbw.out.trans (hb3.out.mono hbw.out.size)⟩
    · have hlfb : (last == first) = false := by rw [beq_eq_false_iff_ne]; exact hlf
      have hs : Hid (s5 l = false) := by show _ = _; rw [hs5.out, decide_eq_false hlf]; simp
      replace hlf := Lib.hid hlf
      refine wp_region_held_drew (S := (fun W' => W'.cell? ⟨bP, oP + n1, none⟩ = some (.int .i64 last) ∧ W'.cell? ⟨bP, oP, none⟩ = some (.int .i64 first))) (by kernel_rfl) (hSS.out _ (Below.refl _ _).drew) (fun hHeld => ?_)
      refine wpAnyH_take (i := 0) (v := ?_) rfl (by kernel_rfl) (by kernel_rfl) (by kernel_rfl) (fun _ _ _ h => h) (Or.inl ⟨by rfl, ?_⟩) hHeld ?_
      rotate_left
      · intro W9 hSw; (try dsimp only at hSw); go_simp; (try with_reducible rfl)
      simp only [Act.put, List.getElem_toArray, List.getElem_cons_zero, List.getElem_cons_succ, List.setIfInBounds_toArray, List.set_cons_zero, List.set_cons_succ]
      refine wpAnyH_take (i := 1) (v := ?_) rfl (by kernel_rfl) (by kernel_rfl) (by kernel_rfl) (fun _ _ _ h => h) (Or.inl ⟨by rfl, ?_⟩) hHeld ?_
      rotate_left
      · intro W9 hSw; (try dsimp only at hSw); go_simp; (try with_reducible rfl)
      simp only [Act.put, List.getElem_toArray, List.getElem_cons_zero, List.getElem_cons_succ, List.setIfInBounds_toArray, List.set_cons_zero, List.set_cons_succ]
      refine wpAnyH_take (i := 2) (v := ?_) rfl (by kernel_rfl) (by kernel_rfl) (by kernel_rfl) (fun _ _ _ h => h) (Or.inl ⟨by rfl, ?_⟩) hHeld ?_
      rotate_left
      · intro W9 hSw; (try dsimp only at hSw); go_simp; (try with_reducible rfl)
      simp only [Act.put, List.getElem_toArray, List.getElem_cons_zero, List.getElem_cons_succ, List.setIfInBounds_toArray, List.set_cons_zero, List.set_cons_succ]
      refine wpAnyH_take (i := 3) (v := ?_) rfl (by kernel_rfl) (by kernel_rfl) (by kernel_rfl) (fun _ _ _ h => h) (Or.inl ⟨by rfl, ?_⟩) hHeld ?_
      rotate_left
      · intro W9 hSw; (try dsimp only at hSw); go_simp; (try with_reducible rfl)
      simp only [Act.put, List.getElem_toArray, List.getElem_cons_zero, List.getElem_cons_succ, List.setIfInBounds_toArray, List.set_cons_zero, List.set_cons_succ]
      refine wpAnyH_take (i := 4) (v := ?_) rfl (by kernel_rfl) (by kernel_rfl) (by kernel_rfl) (fun _ _ _ h => h) (Or.inl ⟨by rfl, ?_⟩) hHeld ?_
      rotate_left
      · intro W9 hSw; (try dsimp only at hSw); go_simp; (try with_reducible rfl)
      simp only [Act.put, List.getElem_toArray, List.getElem_cons_zero, List.getElem_cons_succ, List.setIfInBounds_toArray, List.set_cons_zero, List.set_cons_succ]
      refine wpAnyH_take (i := 5) (v := ?_) rfl (by kernel_rfl) (by kernel_rfl) (by kernel_rfl) (fun _ _ _ h => h) (Or.inl ⟨by rfl, ?_⟩) hHeld ?_
      rotate_left
      · intro W9 hSw; (try dsimp only at hSw); go_simp; (try with_reducible rfl)
      simp only [Act.put, List.getElem_toArray, List.getElem_cons_zero, List.getElem_cons_succ, List.setIfInBounds_toArray, List.set_cons_zero, List.set_cons_succ]
      refine wpAnyH_take (i := 6) (v := ?_) rfl (by kernel_rfl) (by kernel_rfl) (by kernel_rfl) (fun _ _ _ h => h) (Or.inl ⟨by rfl, ?_⟩) hHeld ?_
      rotate_left
      · intro W9 hSw; (try dsimp only at hSw); go_simp; (try with_reducible rfl)
      simp only [Act.put, List.getElem_toArray, List.getElem_cons_zero, List.getElem_cons_succ, List.setIfInBounds_toArray, List.set_cons_zero, List.set_cons_succ]
      refine wpAnyH_take (i := 7) (v := ?_) rfl (by kernel_rfl) (by kernel_rfl) (by kernel_rfl) (fun _ _ _ h => h) (Or.inl ⟨by rfl, ?_⟩) hHeld ?_
      rotate_left
      · intro W9 hSw; (try dsimp only at hSw); go_simp; (try with_reducible rfl)
      simp only [Act.put, List.getElem_toArray, List.getElem_cons_zero, List.getElem_cons_succ, List.setIfInBounds_toArray, List.set_cons_zero, List.set_cons_succ]
      refine wpAnyH_take (i := 8) (v := ?_) rfl (by kernel_rfl) (by kernel_rfl) (by kernel_rfl) (fun _ _ _ h => h) (Or.inl ⟨by rfl, ?_⟩) hHeld ?_
      rotate_left
      · intro W9 hSw; (try dsimp only at hSw); go_simp; (try with_reducible rfl)
      simp only [Act.put, List.getElem_toArray, List.getElem_cons_zero, List.getElem_cons_succ, List.setIfInBounds_toArray, List.set_cons_zero, List.set_cons_succ]
      refine wpAnyH_take (i := 9) (v := ?_) rfl (by kernel_rfl) (by kernel_rfl) (by kernel_rfl) (fun _ _ _ h => h) (Or.inl ⟨by rfl, ?_⟩) hHeld ?_
      rotate_left
      · intro W9 hSw; (try dsimp only at hSw); go_simp; (try with_reducible rfl)
      simp only [Act.put, List.getElem_toArray, List.getElem_cons_zero, List.getElem_cons_succ, List.setIfInBounds_toArray, List.set_cons_zero, List.set_cons_succ]
      refine wpAnyH_take (i := 10) (v := ?_) rfl (by kernel_rfl) (by kernel_rfl) (by kernel_rfl) (fun _ _ _ h => h) (Or.inl ⟨by rfl, ?_⟩) hHeld ?_
      rotate_left
      · intro W9 hSw; (try dsimp only at hSw); go_simp; (try with_reducible rfl)
      simp only [Act.put, List.getElem_toArray, List.getElem_cons_zero, List.getElem_cons_succ, List.setIfInBounds_toArray, List.set_cons_zero, List.set_cons_succ]
      refine wpAnyH_take (i := 11) (v := ?_) rfl (by kernel_rfl) (by kernel_rfl) (by kernel_rfl) (fun _ _ _ h => h) (Or.inl ⟨by rfl, ?_⟩) hHeld ?_
      rotate_left
      · intro W9 hSw; (try dsimp only at hSw); go_simp; (try with_reducible rfl)
      simp only [Act.put, List.getElem_toArray, List.getElem_cons_zero, List.getElem_cons_succ, List.setIfInBounds_toArray, List.set_cons_zero, List.set_cons_succ]
      refine wpAnyH_take (i := 12) (v := ?_) rfl (by kernel_rfl) (by kernel_rfl) (by kernel_rfl) (fun _ _ _ h => h) (Or.inl ⟨by rfl, ?_⟩) hHeld ?_
      rotate_left
      · intro W9 hSw; (try dsimp only at hSw); go_simp; (try with_reducible rfl)
      simp only [Act.put, List.getElem_toArray, List.getElem_cons_zero, List.getElem_cons_succ, List.setIfInBounds_toArray, List.set_cons_zero, List.set_cons_succ]
      refine wpAnyH_take (i := 13) (v := undef) rfl (by kernel_rfl) (by kernel_rfl) (by kernel_rfl) (fun _ _ _ h => h) (Or.inr ⟨by rfl, rfl⟩) hHeld ?_
      simp only [Act.put, List.getElem_toArray, List.getElem_cons_zero, List.getElem_cons_succ, List.setIfInBounds_toArray, List.set_cons_zero, List.set_cons_succ]
      refine wpAnyH_take (i := 14) (v := undef) rfl (by kernel_rfl) (by kernel_rfl) (by kernel_rfl) (fun _ _ _ h => h) (Or.inr ⟨by rfl, rfl⟩) hHeld ?_
      simp only [Act.put, List.getElem_toArray, List.getElem_cons_zero, List.getElem_cons_succ, List.setIfInBounds_toArray, List.set_cons_zero, List.set_cons_succ]
      refine wpAnyH_take (i := 15) (v := undef) rfl (by kernel_rfl) (by kernel_rfl) (by kernel_rfl) (fun _ _ _ h => h) (Or.inr ⟨by rfl, rfl⟩) hHeld ?_
      simp only [Act.put, List.getElem_toArray, List.getElem_cons_zero, List.getElem_cons_succ, List.setIfInBounds_toArray, List.set_cons_zero, List.set_cons_succ]
      refine wpAnyH_take (i := 16) (v := ?_) rfl (by kernel_rfl) (by kernel_rfl) (by kernel_rfl) (fun _ _ _ h => h) (Or.inl ⟨by rfl, ?_⟩) hHeld ?_
      rotate_left
      · intro W9 hSw; (try dsimp only at hSw); go_simp; (try with_reducible rfl)
      simp only [Act.put, List.getElem_toArray, List.getElem_cons_zero, List.getElem_cons_succ, List.setIfInBounds_toArray, List.set_cons_zero, List.set_cons_succ]
      refine wpAnyH_take (i := 17) (v := ?_) rfl (by kernel_rfl) (by kernel_rfl) (by kernel_rfl) (fun _ _ _ h => h) (Or.inl ⟨by rfl, ?_⟩) hHeld ?_
      rotate_left
      · intro W9 hSw; (try dsimp only at hSw); go_simp; (try with_reducible rfl)
      simp only [Act.put, List.getElem_toArray, List.getElem_cons_zero, List.getElem_cons_succ, List.setIfInBounds_toArray, List.set_cons_zero, List.set_cons_succ]
      refine wpAnyH_done (by kernel_rfl) ?_ _
      go_wp2_with fail
      go_ret
      exact ⟨rb hs.out.symm, hbw.out.drew⟩
  · have hd3 : decide ((3 : Int) ≤ (n1 : Int)) = false := decide_eq_false (by omega)
    have hs : Hid (s5 l = false) := by show _ = _; rw [hs5.out, decide_eq_false h3]; rfl
    refine wp_region_held_drew (S := (fun W' => W'.cell? ⟨bP, oP + n1, none⟩ = some (.int .i64 last) ∧ W'.cell? ⟨bP, oP, none⟩ = some (.int .i64 first))) (by kernel_rfl) (hSS.out _ (Below.refl _ _).drew) (fun hHeld => ?_)
    refine wpAnyH_take (i := 0) (v := ?_) rfl (by kernel_rfl) (by kernel_rfl) (by kernel_rfl) (fun _ _ _ h => h) (Or.inl ⟨by rfl, ?_⟩) hHeld ?_
    rotate_left
    · intro W9 hSw; (try dsimp only at hSw); go_simp; (try with_reducible rfl)
    simp only [Act.put, List.getElem_toArray, List.getElem_cons_zero, List.getElem_cons_succ, List.setIfInBounds_toArray, List.set_cons_zero, List.set_cons_succ]
    refine wpAnyH_take (i := 1) (v := ?_) rfl (by kernel_rfl) (by kernel_rfl) (by kernel_rfl) (fun _ _ _ h => h) (Or.inl ⟨by rfl, ?_⟩) hHeld ?_
    rotate_left
    · intro W9 hSw; (try dsimp only at hSw); go_simp; (try with_reducible rfl)
    simp only [Act.put, List.getElem_toArray, List.getElem_cons_zero, List.getElem_cons_succ, List.setIfInBounds_toArray, List.set_cons_zero, List.set_cons_succ]
    refine wpAnyH_take (i := 2) (v := ?_) rfl (by kernel_rfl) (by kernel_rfl) (by kernel_rfl) (fun _ _ _ h => h) (Or.inl ⟨by rfl, ?_⟩) hHeld ?_
    rotate_left
    · intro W9 hSw; (try dsimp only at hSw); go_simp; (try with_reducible rfl)
    simp only [Act.put, List.getElem_toArray, List.getElem_cons_zero, List.getElem_cons_succ, List.setIfInBounds_toArray, List.set_cons_zero, List.set_cons_succ]
    refine wpAnyH_take (i := 3) (v := undef) rfl (by kernel_rfl) (by kernel_rfl) (by kernel_rfl) (fun _ _ _ h => h) (Or.inr ⟨by rfl, rfl⟩) hHeld ?_
    simp only [Act.put, List.getElem_toArray, List.getElem_cons_zero, List.getElem_cons_succ, List.setIfInBounds_toArray, List.set_cons_zero, List.set_cons_succ]
    refine wpAnyH_take (i := 4) (v := undef) rfl (by kernel_rfl) (by kernel_rfl) (by kernel_rfl) (fun _ _ _ h => h) (Or.inr ⟨by rfl, rfl⟩) hHeld ?_
    simp only [Act.put, List.getElem_toArray, List.getElem_cons_zero, List.getElem_cons_succ, List.setIfInBounds_toArray, List.set_cons_zero, List.set_cons_succ]
    refine wpAnyH_take (i := 5) (v := undef) rfl (by kernel_rfl) (by kernel_rfl) (by kernel_rfl) (fun _ _ _ h => h) (Or.inr ⟨by rfl, rfl⟩) hHeld ?_
    simp only [Act.put, List.getElem_toArray, List.getElem_cons_zero, List.getElem_cons_succ, List.setIfInBounds_toArray, List.set_cons_zero, List.set_cons_succ]
    refine wpAnyH_take (i := 6) (v := undef) rfl (by kernel_rfl) (by kernel_rfl) (by kernel_rfl) (fun _ _ _ h => h) (Or.inr ⟨by rfl, rfl⟩) hHeld ?_
    simp only [Act.put, List.getElem_toArray, List.getElem_cons_zero, List.getElem_cons_succ, List.setIfInBounds_toArray, List.set_cons_zero, List.set_cons_succ]
    refine wpAnyH_take (i := 7) (v := undef) rfl (by kernel_rfl) (by kernel_rfl) (by kernel_rfl) (fun _ _ _ h => h) (Or.inr ⟨by rfl, rfl⟩) hHeld ?_
    simp only [Act.put, List.getElem_toArray, List.getElem_cons_zero, List.getElem_cons_succ, List.setIfInBounds_toArray, List.set_cons_zero, List.set_cons_succ]
    refine wpAnyH_take (i := 8) (v := undef) rfl (by kernel_rfl) (by kernel_rfl) (by kernel_rfl) (fun _ _ _ h => h) (Or.inr ⟨by rfl, rfl⟩) hHeld ?_
    simp only [Act.put, List.getElem_toArray, List.getElem_cons_zero, List.getElem_cons_succ, List.setIfInBounds_toArray, List.set_cons_zero, List.set_cons_succ]
    refine wpAnyH_take (i := 9) (v := undef) rfl (by kernel_rfl) (by kernel_rfl) (by kernel_rfl) (fun _ _ _ h => h) (Or.inr ⟨by rfl, rfl⟩) hHeld ?_
    simp only [Act.put, List.getElem_toArray, List.getElem_cons_zero, List.getElem_cons_succ, List.setIfInBounds_toArray, List.set_cons_zero, List.set_cons_succ]
    refine wpAnyH_take (i := 10) (v := undef) rfl (by kernel_rfl) (by kernel_rfl) (by kernel_rfl) (fun _ _ _ h => h) (Or.inr ⟨by rfl, rfl⟩) hHeld ?_
    simp only [Act.put, List.getElem_toArray, List.getElem_cons_zero, List.getElem_cons_succ, List.setIfInBounds_toArray, List.set_cons_zero, List.set_cons_succ]
    refine wpAnyH_take (i := 11) (v := ?_) rfl (by kernel_rfl) (by kernel_rfl) (by kernel_rfl) (fun _ _ _ h => h) (Or.inl ⟨by rfl, ?_⟩) hHeld ?_
    rotate_left
    · intro W9 hSw; (try dsimp only at hSw); go_simp; (try with_reducible rfl)
    simp only [Act.put, List.getElem_toArray, List.getElem_cons_zero, List.getElem_cons_succ, List.setIfInBounds_toArray, List.set_cons_zero, List.set_cons_succ]
    refine wpAnyH_take (i := 12) (v := ?_) rfl (by kernel_rfl) (by kernel_rfl) (by kernel_rfl) (fun _ _ _ h => h) (Or.inl ⟨by rfl, ?_⟩) hHeld ?_
    rotate_left
    · intro W9 hSw; (try dsimp only at hSw); go_simp; (try with_reducible rfl)
    simp only [Act.put, List.getElem_toArray, List.getElem_cons_zero, List.getElem_cons_succ, List.setIfInBounds_toArray, List.set_cons_zero, List.set_cons_succ]
    refine wpAnyH_take (i := 13) (v := undef) rfl (by kernel_rfl) (by kernel_rfl) (by kernel_rfl) (fun _ _ _ h => h) (Or.inr ⟨by rfl, rfl⟩) hHeld ?_
    simp only [Act.put, List.getElem_toArray, List.getElem_cons_zero, List.getElem_cons_succ, List.setIfInBounds_toArray, List.set_cons_zero, List.set_cons_succ]
    refine wpAnyH_take (i := 14) (v := undef) rfl (by kernel_rfl) (by kernel_rfl) (by kernel_rfl) (fun _ _ _ h => h) (Or.inr ⟨by rfl, rfl⟩) hHeld ?_
    simp only [Act.put, List.getElem_toArray, List.getElem_cons_zero, List.getElem_cons_succ, List.setIfInBounds_toArray, List.set_cons_zero, List.set_cons_succ]
    refine wpAnyH_take (i := 15) (v := undef) rfl (by kernel_rfl) (by kernel_rfl) (by kernel_rfl) (fun _ _ _ h => h) (Or.inr ⟨by rfl, rfl⟩) hHeld ?_
    simp only [Act.put, List.getElem_toArray, List.getElem_cons_zero, List.getElem_cons_succ, List.setIfInBounds_toArray, List.set_cons_zero, List.set_cons_succ]
    refine wpAnyH_take (i := 16) (v := ?_) rfl (by kernel_rfl) (by kernel_rfl) (by kernel_rfl) (fun _ _ _ h => h) (Or.inl ⟨by rfl, ?_⟩) hHeld ?_
    rotate_left
    · intro W9 hSw; (try dsimp only at hSw); go_simp; (try with_reducible rfl)
    simp only [Act.put, List.getElem_toArray, List.getElem_cons_zero, List.getElem_cons_succ, List.setIfInBounds_toArray, List.set_cons_zero, List.set_cons_succ]
    refine wpAnyH_take (i := 17) (v := ?_) rfl (by kernel_rfl) (by kernel_rfl) (by kernel_rfl) (fun _ _ _ h => h) (Or.inl ⟨by rfl, ?_⟩) hHeld ?_
    rotate_left
    · intro W9 hSw; (try dsimp only at hSw); go_simp; (try with_reducible rfl)
    simp only [Act.put, List.getElem_toArray, List.getElem_cons_zero, List.getElem_cons_succ, List.setIfInBounds_toArray, List.set_cons_zero, List.set_cons_succ]
    refine wpAnyH_done (by kernel_rfl) ?_ _
    go_wp2_with fail
    go_ret
    exact ⟨rb hs.out.symm, hbw.out.drew⟩
set_option maxRecDepth 100000 in
set_option maxHeartbeats 4000000 in
theorem rshow6 (f q : Int) (bk : Bool) (At : Option Addr) (t : List Nd) (ct i : Nat) (x : Nd) (w : World) (hT : RecAt nEnc 4 w w.heap.size At t) (hl : t.length ≤ 990) (hz : szB f q = true) (hok : okK f q t t.length = true) (hx : t[i]? = some x) :
    Calls Try.prog 38 #[.agg #[.int .i64 f, .int .i64 q], .bool bk, .slice At t.length ct, .int .i64 (i : Int), .int .i64 6] w fun e w' => e = .returned (.bool (s6 f q bk x (pth (back t (i + 1))))) ∧ Below w.heap.size w w' := by
  obtain ⟨f0, f1, r0, r1⟩ := szB_out hz
  have hil : i < t.length := (List.getElem?_eq_some_iff.1 hx).1
  have hiI : (i : Int) < (t.length : Int) := by omega
  have hi0 : (0 : Int) ≤ (i : Int) := Int.natCast_nonneg _
  have hnb := nodeB_out (okK_at hok hil hx)
  have hch : chain (back t (i + 1)) := okK_chain hok (k := i + 1) (by omega)
  have hply := okK_ply hok (k := i + 1) (by omega)
  have hbne : back t (i + 1) ≠ [] := by rw [back_succ hx]; exact List.cons_ne_nil _ _
  have htop : top (back t (i + 1)) = x.1 := by rw [back_succ hx]; rfl
  obtain ⟨pl0, pl1⟩ := pth_len hch hbne
  have hpb := Lib.hid (pth_bd hok (k := i + 1) (by omega))
  have hTW : Hid (∀ W, Below w.heap.size w W → RecAt nEnc 4 W W.heap.size At t) := fun W hb => (hT.below (Nat.le_refl _) hb).more hb.size
  obtain ⟨b, off, hAt, hb, e0, _, _, e3⟩ := nd4 hT hx
  subst hAt
  have hS := Lib.hid (Sz2.new w f q 23)
  have hb1 : Hid (Below w.heap.size w (w.alloc (.cells #[.int .i64 f, .int .i64 q] 23))) := (Below.refl _ _).alloc (Nat.le_refl _) _
  have hs1 : w.heap.size < (w.alloc (.cells #[.int .i64 f, .int .i64 q] 23)).heap.size := by simp
  have hxl : x.1 ≤ 1001 := by omega
  have hpc : Hid (∀ W, Below w.heap.size w W → Calls Try.prog 13 #[.slice (some ⟨b, off, none⟩) t.length ct, .int .i64 (i : Int)] W fun e w' => ∃ A c, e = .returned (.slice A (pth (back t (i + 1))).length c) ∧ O1 iEnc 1 W.heap.size 3 W w' A c (pth (back t (i + 1)))) := fun W h => rpath _ t ct i x W (hTW.out W h) (by omega) hx hch hxl
  have hac : Hid (∀ W, Below w.heap.size w W → Calls Try.prog 50 #[.slice (some ⟨b, off, none⟩) t.length ct, .int .i64 (i : Int)] W fun e w' => e = .returned (.bool (allB t i x)) ∧ Below W.heap.size W w') := fun W h => rall f q _ t ct i x W (hTW.out W h) (by omega) hok hx
  have hs3 := Lib.hid (allB_s3 hok hx)
  obtain ⟨l, hle⟩ : ∃ l, pth (back t (i + 1)) = l := ⟨_, rfl⟩
  rw [hle] at hpc hpb pl0 pl1
  (try rw [hle])
  obtain ⟨n1, hn1⟩ : ∃ n1, l.length = n1 + 1 := ⟨l.length - 1, by omega⟩
  have hn1b : n1 ≤ 995 := by omega
  have hn1a : 1 ≤ n1 := by omega
  rw [hn1] at hpc
  have hsn := Lib.hid hn1
  have hxH := Lib.hid hx
  obtain ⟨p, ma, mb, mc⟩ := x
  have hp1 : 1 ≤ p := hnb.2.1
  have hmc : mc = 0 ∨ mc = 2 ∨ mc = 3 ∨ mc = 4 ∨ mc = 5 := by
    have : mc = 0 ∨ 2 ≤ mc ∧ mc ≤ 5 := (mvB_out hnb.1).2.2.2
    omega
  have e0' : w.cell? ⟨b, off + i * 4, none⟩ = some (.int .i64 p) := e0
  have e3' : w.cell? ⟨b, off + i * 4 + 3, none⟩ = some (.int .i8 mc) := e3
  clear hT hok hx hnb hch hply hbne htop hle pl0 pl1 hn1 e0 e3 hxl
  go_enter Try.func38, Try.ntmps38
  go_upto_region 1 with fail
  generalize w.alloc (.cells #[.int .i64 f, .int .i64 q] 23) = w1 at *
  have hwk : IntKind.i64.wrap (((n1 + 1 : Nat) : Int) - 1) = (n1 : Int) := by rw [show ((n1 + 1 : Nat) : Int) - 1 = (n1 : Int) by omega]; exact IntWalk.i64_in _ (by omega)
  go_upto_region 3 with (go_at_call 13; refine (hpc.out w1 hb1.out).mono ?_; rintro e w2 ⟨Ap, cp, rfl, hO⟩; replace hO := Lib.hid hO)
  have hbw := Lib.hid (hb1.out.trans (hO.out.below.mono (by omega)))
  have hS2 := Lib.hid (hS.out.next hO.out.below)
  have hR := Lib.hid (hO.out.recs iEnc_len)
  obtain ⟨bP, oP, hAp, hbP, _⟩ := hR.out (by rw [hsn.out]; omega)
  subst hAp
  have hpg := Lib.hid (recs_getD hR.out)
  have m0 := (hbw.out.cell (p := ⟨b, off + i * 4, none⟩) hb).trans e0'
  have m3 := (hbw.out.cell (p := ⟨b, off + i * 4 + 3, none⟩) hb).trans e3'
  clear hO hpc hb1 hS hs1 hwk e0' e3'
  obtain ⟨sv, hsv⟩ : ∃ sv, (bk == (p % 2 == 1)) = sv := ⟨_, rfl⟩
  obtain ⟨first, hfi⟩ : ∃ first, l.getD 0 0 = first := ⟨_, rfl⟩
  obtain ⟨last, hla⟩ : ∃ last, l.getD n1 0 = last := ⟨_, rfl⟩
  have hfb : 0 ≤ first ∧ first < 64 := by
    have h1 : l[0]? = some first := by rw [← hfi, List.getD, List.getElem?_eq_getElem (show 0 < l.length by rw [hsn.out]; omega)]; rfl
    exact hpb.out first (List.mem_of_getElem? h1)
  have hn0 : (0 : Int) ≤ (n1 : Int) := Int.natCast_nonneg _
  have hn1I : (n1 : Int) < ((n1 + 1 : Nat) : Int) := by omega
  have hn1p : 0 < n1 + 1 := Nat.succ_pos _
  have hn1J : (n1 : Int) < (n1 : Int) + 1 := by omega
  have hn1K : (0 : Int) < (n1 : Int) + 1 := by omega
  have hg1 := hpg.out n1 (by rw [hsn.out]; omega)
  have hg0 := hpg.out 0 (by rw [hsn.out]; omega)
  rw [hla] at hg1
  rw [hfi, Nat.add_zero] at hg0
  have hSS : Hid (∀ W, Below w2.heap.size w2 W → W.cell? ⟨bP, oP, none⟩ = some (.int .i64 first) ∧ W.cell? ⟨w.heap.size, 0, none⟩ = some (.int .i64 f) ∧ W.cell? ⟨w.heap.size, 1, none⟩ = some (.int .i64 q)) := fun W h => ⟨(h.cell (p := ⟨bP, oP, none⟩) hbP).trans hg0, (hS2.out.next h).c0, (hS2.out.next h).c1⟩
  have hs6 : Hid (s6 f q bk (p, ma, mb, mc) l = (decide (mc ≠ 0) && (decide (2 ≤ n1) && decide (first / f = rk2 q sv)))) := by
    show _ = _
    unfold s6 nPr sd
    rw [hfi, hsn.out]
    congr 1
    congr 1
    · rw [decide_eq_decide]; omega
    · rw [← hsv]
  have hrk : Hid (∀ W, Below w2.heap.size w2 W → Calls Try.prog 52 #[.agg #[.int .i64 f, .int .i64 q], .bool sv, .int .i64 2] W fun e w' => e = .returned (.int .i64 (rk2 q sv)) ∧ Below W.heap.size W w') := fun W _ => rrank f q sv W (by omega) (by omega)
  replace hla := Lib.hid hla
  replace hfi := Lib.hid hfi
  replace hmc := Lib.hid hmc
  go_upto_region 16 with fail
  clear hg0 hg1
  replace hsv := Lib.hid hsv
  cases h0 : (mc != 0) with
  | false =>
    have hs : Hid (s6 f q bk (p, ma, mb, mc) l = false) := by show _ = _; rw [hs6.out, decide_eq_false (show ¬ mc ≠ 0 by simpa using h0)]; rfl
    refine wp_region_held_drew (S := (fun W' => W'.cell? ⟨bP, oP, none⟩ = some (.int .i64 first) ∧ W'.cell? ⟨w.heap.size, 0, none⟩ = some (.int .i64 f) ∧ W'.cell? ⟨w.heap.size, 1, none⟩ = some (.int .i64 q))) (by kernel_rfl) (hSS.out _ (Below.refl _ _).drew) (fun hHeld => ?_)
    refine wpAnyH_take (i := 0) (v := ?_) rfl (by kernel_rfl) (by kernel_rfl) (by kernel_rfl) (fun _ _ _ h => h) (Or.inl ⟨by rfl, ?_⟩) hHeld ?_
    rotate_left
    · intro W9 hSw; (try dsimp only at hSw); go_simp; (try with_reducible rfl)
    simp only [Act.put, List.getElem_toArray, List.getElem_cons_zero, List.getElem_cons_succ, List.setIfInBounds_toArray, List.set_cons_zero, List.set_cons_succ]
    refine wpAnyH_take (i := 1) (v := ?_) rfl (by kernel_rfl) (by kernel_rfl) (by kernel_rfl) (fun _ _ _ h => h) (Or.inl ⟨by rfl, ?_⟩) hHeld ?_
    rotate_left
    · intro W9 hSw; (try dsimp only at hSw); go_simp; (try with_reducible rfl)
    simp only [Act.put, List.getElem_toArray, List.getElem_cons_zero, List.getElem_cons_succ, List.setIfInBounds_toArray, List.set_cons_zero, List.set_cons_succ]
    refine wpAnyH_take (i := 2) (v := ?_) rfl (by kernel_rfl) (by kernel_rfl) (by kernel_rfl) (fun _ _ _ h => h) (Or.inl ⟨by rfl, ?_⟩) hHeld ?_
    rotate_left
    · intro W9 hSw; (try dsimp only at hSw); go_simp; (try with_reducible rfl)
    simp only [Act.put, List.getElem_toArray, List.getElem_cons_zero, List.getElem_cons_succ, List.setIfInBounds_toArray, List.set_cons_zero, List.set_cons_succ]
    refine wpAnyH_take (i := 3) (v := undef) rfl (by kernel_rfl) (by kernel_rfl) (by kernel_rfl) (fun _ _ _ h => h) (Or.inr ⟨by rfl, rfl⟩) hHeld ?_
    simp only [Act.put, List.getElem_toArray, List.getElem_cons_zero, List.getElem_cons_succ, List.setIfInBounds_toArray, List.set_cons_zero, List.set_cons_succ]
    refine wpAnyH_take (i := 4) (v := undef) rfl (by kernel_rfl) (by kernel_rfl) (by kernel_rfl) (fun _ _ _ h => h) (Or.inr ⟨by rfl, rfl⟩) hHeld ?_
    simp only [Act.put, List.getElem_toArray, List.getElem_cons_zero, List.getElem_cons_succ, List.setIfInBounds_toArray, List.set_cons_zero, List.set_cons_succ]
    refine wpAnyH_take (i := 5) (v := ?_) rfl (by kernel_rfl) (by kernel_rfl) (by kernel_rfl) (fun _ _ _ h => h) (Or.inl ⟨by rfl, ?_⟩) hHeld ?_
    rotate_left
    · intro W9 hSw; (try dsimp only at hSw); go_simp; (try with_reducible rfl)
    simp only [Act.put, List.getElem_toArray, List.getElem_cons_zero, List.getElem_cons_succ, List.setIfInBounds_toArray, List.set_cons_zero, List.set_cons_succ]
    refine wpAnyH_take (i := 6) (v := ?_) rfl (by kernel_rfl) (by kernel_rfl) (by kernel_rfl) (fun _ _ _ h => h) (Or.inl ⟨by rfl, ?_⟩) hHeld ?_
    rotate_left
    · intro W9 hSw; (try dsimp only at hSw); go_simp; (try with_reducible rfl)
    simp only [Act.put, List.getElem_toArray, List.getElem_cons_zero, List.getElem_cons_succ, List.setIfInBounds_toArray, List.set_cons_zero, List.set_cons_succ]
    refine wpAnyH_take (i := 7) (v := undef) rfl (by kernel_rfl) (by kernel_rfl) (by kernel_rfl) (fun _ _ _ h => h) (Or.inr ⟨by rfl, rfl⟩) hHeld ?_
    simp only [Act.put, List.getElem_toArray, List.getElem_cons_zero, List.getElem_cons_succ, List.setIfInBounds_toArray, List.set_cons_zero, List.set_cons_succ]
    refine wpAnyH_take (i := 8) (v := undef) rfl (by kernel_rfl) (by kernel_rfl) (by kernel_rfl) (fun _ _ _ h => h) (Or.inr ⟨by rfl, rfl⟩) hHeld ?_
    simp only [Act.put, List.getElem_toArray, List.getElem_cons_zero, List.getElem_cons_succ, List.setIfInBounds_toArray, List.set_cons_zero, List.set_cons_succ]
    refine wpAnyH_take (i := 9) (v := undef) rfl (by kernel_rfl) (by kernel_rfl) (by kernel_rfl) (fun _ _ _ h => h) (Or.inr ⟨by rfl, rfl⟩) hHeld ?_
    simp only [Act.put, List.getElem_toArray, List.getElem_cons_zero, List.getElem_cons_succ, List.setIfInBounds_toArray, List.set_cons_zero, List.set_cons_succ]
    refine wpAnyH_take (i := 10) (v := undef) rfl (by kernel_rfl) (by kernel_rfl) (by kernel_rfl) (fun _ _ _ h => h) (Or.inr ⟨by rfl, rfl⟩) hHeld ?_
    simp only [Act.put, List.getElem_toArray, List.getElem_cons_zero, List.getElem_cons_succ, List.setIfInBounds_toArray, List.set_cons_zero, List.set_cons_succ]
    refine wpAnyH_take (i := 11) (v := undef) rfl (by kernel_rfl) (by kernel_rfl) (by kernel_rfl) (fun _ _ _ h => h) (Or.inr ⟨by rfl, rfl⟩) hHeld ?_
    simp only [Act.put, List.getElem_toArray, List.getElem_cons_zero, List.getElem_cons_succ, List.setIfInBounds_toArray, List.set_cons_zero, List.set_cons_succ]
    refine wpAnyH_take (i := 12) (v := undef) rfl (by kernel_rfl) (by kernel_rfl) (by kernel_rfl) (fun _ _ _ h => h) (Or.inr ⟨by rfl, rfl⟩) hHeld ?_
    simp only [Act.put, List.getElem_toArray, List.getElem_cons_zero, List.getElem_cons_succ, List.setIfInBounds_toArray, List.set_cons_zero, List.set_cons_succ]
    refine wpAnyH_take (i := 13) (v := undef) rfl (by kernel_rfl) (by kernel_rfl) (by kernel_rfl) (fun _ _ _ h => h) (Or.inr ⟨by rfl, rfl⟩) hHeld ?_
    simp only [Act.put, List.getElem_toArray, List.getElem_cons_zero, List.getElem_cons_succ, List.setIfInBounds_toArray, List.set_cons_zero, List.set_cons_succ]
    refine wpAnyH_take (i := 14) (v := undef) rfl (by kernel_rfl) (by kernel_rfl) (by kernel_rfl) (fun _ _ _ h => h) (Or.inr ⟨by rfl, rfl⟩) hHeld ?_
    simp only [Act.put, List.getElem_toArray, List.getElem_cons_zero, List.getElem_cons_succ, List.setIfInBounds_toArray, List.set_cons_zero, List.set_cons_succ]
    refine wpAnyH_take (i := 15) (v := undef) rfl (by kernel_rfl) (by kernel_rfl) (by kernel_rfl) (fun _ _ _ h => h) (Or.inr ⟨by rfl, rfl⟩) hHeld ?_
    simp only [Act.put, List.getElem_toArray, List.getElem_cons_zero, List.getElem_cons_succ, List.setIfInBounds_toArray, List.set_cons_zero, List.set_cons_succ]
    refine wpAnyH_take (i := 16) (v := undef) rfl (by kernel_rfl) (by kernel_rfl) (by kernel_rfl) (fun _ _ _ h => h) (Or.inr ⟨by rfl, rfl⟩) hHeld ?_
    simp only [Act.put, List.getElem_toArray, List.getElem_cons_zero, List.getElem_cons_succ, List.setIfInBounds_toArray, List.set_cons_zero, List.set_cons_succ]
    refine wpAnyH_take (i := 17) (v := ?_) rfl (by kernel_rfl) (by kernel_rfl) (by kernel_rfl) (fun _ _ _ h => h) (Or.inl ⟨by rfl, ?_⟩) hHeld ?_
    rotate_left
    · intro W9 hSw; (try dsimp only at hSw); go_simp; (try with_reducible rfl)
    simp only [Act.put, List.getElem_toArray, List.getElem_cons_zero, List.getElem_cons_succ, List.setIfInBounds_toArray, List.set_cons_zero, List.set_cons_succ]
    refine wpAnyH_take (i := 18) (v := ?_) rfl (by kernel_rfl) (by kernel_rfl) (by kernel_rfl) (fun _ _ _ h => h) (Or.inl ⟨by rfl, ?_⟩) hHeld ?_
    rotate_left
    · intro W9 hSw; (try dsimp only at hSw); go_simp; (try with_reducible rfl)
    simp only [Act.put, List.getElem_toArray, List.getElem_cons_zero, List.getElem_cons_succ, List.setIfInBounds_toArray, List.set_cons_zero, List.set_cons_succ]
    refine wpAnyH_done (by kernel_rfl) ?_ _
    go_wp2_with fail
    go_ret
    exact ⟨rb hs.out.symm, hbw.out.drew⟩
  | true =>
    by_cases h2 : 2 ≤ n1
    · have hd2 : decide ((2 : Int) ≤ (n1 : Int)) = true := decide_eq_true (by omega)
      have h2' : (2 : Int) ≤ (n1 : Int) := by omega
      have hs : Hid ((first / f == rk2 q sv) = s6 f q bk (p, ma, mb, mc) l) := by
        show _ = _
        rw [hs6.out, decide_eq_true (show mc ≠ 0 by simpa using h0), decide_eq_true h2, Bool.true_and, Bool.true_and, Bool.eq_iff_iff, beq_iff_eq, decide_eq_true_iff]
      have hf00 : (f = 0) = False := by rw [eq_iff_iff, iff_false]; omega
      have htd : Int.tdiv first f = first / f := Int.tdiv_eq_ediv_of_nonneg hfb.1
      have hwq : IntKind.i64.wrap (first / f) = first / f := IntWalk.i64_in _ (by
        have h1 : 0 ≤ first / f := Int.ediv_nonneg hfb.1 (by omega)
        have h2 : first / f ≤ first := Int.ediv_le_self _ hfb.1
        omega)
      refine wp_region_held_drew (S := (fun W' => W'.cell? ⟨bP, oP, none⟩ = some (.int .i64 first) ∧ W'.cell? ⟨w.heap.size, 0, none⟩ = some (.int .i64 f) ∧ W'.cell? ⟨w.heap.size, 1, none⟩ = some (.int .i64 q))) (by kernel_rfl) (hSS.out _ (Below.refl _ _).drew) (fun hHeld => ?_)
      refine wpAnyH_take (i := 0) (v := ?_) rfl (by kernel_rfl) (by kernel_rfl) (by kernel_rfl) (fun _ _ _ h => h) (Or.inl ⟨by rfl, ?_⟩) hHeld ?_
      rotate_left
      · intro W9 hSw; (try dsimp only at hSw); go_simp; (try with_reducible rfl)
      simp only [Act.put, List.getElem_toArray, List.getElem_cons_zero, List.getElem_cons_succ, List.setIfInBounds_toArray, List.set_cons_zero, List.set_cons_succ]
      refine wpAnyH_take (i := 1) (v := ?_) rfl (by kernel_rfl) (by kernel_rfl) (by kernel_rfl) (fun _ _ _ h => h) (Or.inl ⟨by rfl, ?_⟩) hHeld ?_
      rotate_left
      · intro W9 hSw; (try dsimp only at hSw); go_simp; (try with_reducible rfl)
      simp only [Act.put, List.getElem_toArray, List.getElem_cons_zero, List.getElem_cons_succ, List.setIfInBounds_toArray, List.set_cons_zero, List.set_cons_succ]
      refine wpAnyH_take (i := 2) (v := ?_) rfl (by kernel_rfl) (by kernel_rfl) (by kernel_rfl) (fun _ _ _ h => h) (Or.inl ⟨by rfl, ?_⟩) hHeld ?_
      rotate_left
      · intro W9 hSw; (try dsimp only at hSw); go_simp; (try with_reducible rfl)
      simp only [Act.put, List.getElem_toArray, List.getElem_cons_zero, List.getElem_cons_succ, List.setIfInBounds_toArray, List.set_cons_zero, List.set_cons_succ]
      refine wpAnyH_take (i := 3) (v := ?_) rfl (by kernel_rfl) (by kernel_rfl) (by kernel_rfl) (fun _ _ _ h => h) (Or.inl ⟨by rfl, ?_⟩) hHeld ?_
      rotate_left
      · intro W9 hSw; (try dsimp only at hSw); go_simp; (try with_reducible rfl)
      simp only [Act.put, List.getElem_toArray, List.getElem_cons_zero, List.getElem_cons_succ, List.setIfInBounds_toArray, List.set_cons_zero, List.set_cons_succ]
      refine wpAnyH_take (i := 4) (v := ?_) rfl (by kernel_rfl) (by kernel_rfl) (by kernel_rfl) (fun _ _ _ h => h) (Or.inl ⟨by rfl, ?_⟩) hHeld ?_
      rotate_left
      · intro W9 hSw; (try dsimp only at hSw); go_simp; (try with_reducible rfl)
      simp only [Act.put, List.getElem_toArray, List.getElem_cons_zero, List.getElem_cons_succ, List.setIfInBounds_toArray, List.set_cons_zero, List.set_cons_succ]
      refine wpAnyH_take (i := 5) (v := ?_) rfl (by kernel_rfl) (by kernel_rfl) (by kernel_rfl) (fun _ _ _ h => h) (Or.inl ⟨by rfl, ?_⟩) hHeld ?_
      rotate_left
      · intro W9 hSw; (try dsimp only at hSw); go_simp; (try with_reducible rfl)
      simp only [Act.put, List.getElem_toArray, List.getElem_cons_zero, List.getElem_cons_succ, List.setIfInBounds_toArray, List.set_cons_zero, List.set_cons_succ]
      refine wpAnyH_take (i := 6) (v := ?_) rfl (by kernel_rfl) (by kernel_rfl) (by kernel_rfl) (fun _ _ _ h => h) (Or.inl ⟨by rfl, ?_⟩) hHeld ?_
      rotate_left
      · intro W9 hSw; (try dsimp only at hSw); go_simp; (try with_reducible rfl)
      simp only [Act.put, List.getElem_toArray, List.getElem_cons_zero, List.getElem_cons_succ, List.setIfInBounds_toArray, List.set_cons_zero, List.set_cons_succ]
      refine wpAnyH_take (i := 7) (v := ?_) rfl (by kernel_rfl) (by kernel_rfl) (by kernel_rfl) (fun _ _ _ h => h) (Or.inl ⟨by rfl, ?_⟩) hHeld ?_
      rotate_left
      · intro W9 hSw; (try dsimp only at hSw); go_simp; (try with_reducible rfl)
      simp only [Act.put, List.getElem_toArray, List.getElem_cons_zero, List.getElem_cons_succ, List.setIfInBounds_toArray, List.set_cons_zero, List.set_cons_succ]
      refine wpAnyH_take (i := 8) (v := ?_) rfl (by kernel_rfl) (by kernel_rfl) (by kernel_rfl) (fun _ _ _ h => h) (Or.inl ⟨by rfl, ?_⟩) hHeld ?_
      rotate_left
      · intro W9 hSw; (try dsimp only at hSw); go_simp; (try with_reducible rfl)
      simp only [Act.put, List.getElem_toArray, List.getElem_cons_zero, List.getElem_cons_succ, List.setIfInBounds_toArray, List.set_cons_zero, List.set_cons_succ]
      refine wpAnyH_take (i := 9) (v := ?_) rfl (by kernel_rfl) (by kernel_rfl) (by kernel_rfl) (fun _ _ _ h => h) (Or.inl ⟨by rfl, ?_⟩) hHeld ?_
      rotate_left
      · intro W9 hSw; (try dsimp only at hSw); go_simp; (try with_reducible rfl)
      simp only [Act.put, List.getElem_toArray, List.getElem_cons_zero, List.getElem_cons_succ, List.setIfInBounds_toArray, List.set_cons_zero, List.set_cons_succ]
      refine wpAnyH_take (i := 10) (v := ?_) rfl (by kernel_rfl) (by kernel_rfl) (by kernel_rfl) (fun _ _ _ h => h) (Or.inl ⟨by rfl, ?_⟩) hHeld ?_
      rotate_left
      · intro W9 hSw; (try dsimp only at hSw); go_simp; (try with_reducible rfl)
      simp only [Act.put, List.getElem_toArray, List.getElem_cons_zero, List.getElem_cons_succ, List.setIfInBounds_toArray, List.set_cons_zero, List.set_cons_succ]
      refine wpAnyH_take (i := 11) (v := ?_) rfl (by kernel_rfl) (by kernel_rfl) (by kernel_rfl) (fun _ _ _ h => h) (Or.inl ⟨by rfl, ?_⟩) hHeld ?_
      rotate_left
      · intro W9 hSw; (try dsimp only at hSw); go_simp; (try with_reducible rfl)
      simp only [Act.put, List.getElem_toArray, List.getElem_cons_zero, List.getElem_cons_succ, List.setIfInBounds_toArray, List.set_cons_zero, List.set_cons_succ]
      refine wpAnyH_take (i := 12) (v := ?_) rfl (by kernel_rfl) (by kernel_rfl) (by kernel_rfl) (fun _ _ _ h => h) (Or.inl ⟨by rfl, ?_⟩) hHeld ?_
      rotate_left
      · intro W9 hSw; (try dsimp only at hSw); go_simp; (try with_reducible rfl)
      simp only [Act.put, List.getElem_toArray, List.getElem_cons_zero, List.getElem_cons_succ, List.setIfInBounds_toArray, List.set_cons_zero, List.set_cons_succ]
      refine wpAnyH_take (i := 13) (v := ?_) rfl (by kernel_rfl) (by kernel_rfl) (by kernel_rfl) (fun _ _ _ h => h) (Or.inl ⟨by rfl, ?_⟩) hHeld ?_
      rotate_left
      · intro W9 hSw; (try dsimp only at hSw); go_simp; (try with_reducible rfl)
      simp only [Act.put, List.getElem_toArray, List.getElem_cons_zero, List.getElem_cons_succ, List.setIfInBounds_toArray, List.set_cons_zero, List.set_cons_succ]
      refine wpAnyH_take (i := 14) (v := ?_) rfl (by kernel_rfl) (by kernel_rfl) (by kernel_rfl) (fun _ _ _ h => h) (Or.inl ⟨by rfl, ?_⟩) hHeld ?_
      rotate_left
      · intro W9 hSw; (try dsimp only at hSw); go_simp; (try with_reducible rfl)
      simp only [Act.put, List.getElem_toArray, List.getElem_cons_zero, List.getElem_cons_succ, List.setIfInBounds_toArray, List.set_cons_zero, List.set_cons_succ]
      refine wpAnyH_ready (rs := [15]) (by kernel_rfl) (by simp) ?_
      refine AllReadyH.cons rfl (fun K hK => ?_) AllReadyH.nil
      go_simp
      go_at_call 52
      refine (hrk.out (World.drew w2) (Below.refl _ _).drew).mono ?_
      rintro e w3 ⟨rfl, hb3⟩
      replace hb3 : Hid (Below w2.heap.size w2 w3) := undrew hb3
      refine hK.out _ _ (hSS.out _ hb3.out) (fun hHeld2 => ?_)
      clear hK K hHeld
      have hHeld := hHeld2
      clear hHeld2
      refine wpAnyH_take (i := 16) (v := ?_) rfl (by kernel_rfl) (by kernel_rfl) (by kernel_rfl) (fun _ _ _ h => h) (Or.inl ⟨by rfl, ?_⟩) hHeld ?_
      rotate_left
      · intro W9 hSw; (try dsimp only at hSw); go_simp; (try with_reducible rfl)
      simp only [Act.put, List.getElem_toArray, List.getElem_cons_zero, List.getElem_cons_succ, List.setIfInBounds_toArray, List.set_cons_zero, List.set_cons_succ]
      refine wpAnyH_take (i := 17) (v := ?_) rfl (by kernel_rfl) (by kernel_rfl) (by kernel_rfl) (fun _ _ _ h => h) (Or.inl ⟨by rfl, ?_⟩) hHeld ?_
      rotate_left
      · intro W9 hSw; (try dsimp only at hSw); go_simp; (try with_reducible rfl)
      simp only [Act.put, List.getElem_toArray, List.getElem_cons_zero, List.getElem_cons_succ, List.setIfInBounds_toArray, List.set_cons_zero, List.set_cons_succ]
      refine wpAnyH_take (i := 18) (v := ?_) rfl (by kernel_rfl) (by kernel_rfl) (by kernel_rfl) (fun _ _ _ h => h) (Or.inl ⟨by rfl, ?_⟩) hHeld ?_
      rotate_left
      · intro W9 hSw; (try dsimp only at hSw); go_simp; (try with_reducible rfl)
      simp only [Act.put, List.getElem_toArray, List.getElem_cons_zero, List.getElem_cons_succ, List.setIfInBounds_toArray, List.set_cons_zero, List.set_cons_succ]
      refine wpAnyH_done (by kernel_rfl) ?_ _
      go_wp2_with fail
      go_ret
      exact ⟨rb hs.out, hbw.out.trans (hb3.out.mono hbw.out.size)⟩
    · have hd2 : decide ((2 : Int) ≤ (n1 : Int)) = false := decide_eq_false (by omega)
      have hs : Hid (s6 f q bk (p, ma, mb, mc) l = false) := by show _ = _; rw [hs6.out, decide_eq_false h2]; simp
      refine wp_region_held_drew (S := (fun W' => W'.cell? ⟨bP, oP, none⟩ = some (.int .i64 first) ∧ W'.cell? ⟨w.heap.size, 0, none⟩ = some (.int .i64 f) ∧ W'.cell? ⟨w.heap.size, 1, none⟩ = some (.int .i64 q))) (by kernel_rfl) (hSS.out _ (Below.refl _ _).drew) (fun hHeld => ?_)
      refine wpAnyH_take (i := 0) (v := ?_) rfl (by kernel_rfl) (by kernel_rfl) (by kernel_rfl) (fun _ _ _ h => h) (Or.inl ⟨by rfl, ?_⟩) hHeld ?_
      rotate_left
      · intro W9 hSw; (try dsimp only at hSw); go_simp; (try with_reducible rfl)
      simp only [Act.put, List.getElem_toArray, List.getElem_cons_zero, List.getElem_cons_succ, List.setIfInBounds_toArray, List.set_cons_zero, List.set_cons_succ]
      refine wpAnyH_take (i := 1) (v := ?_) rfl (by kernel_rfl) (by kernel_rfl) (by kernel_rfl) (fun _ _ _ h => h) (Or.inl ⟨by rfl, ?_⟩) hHeld ?_
      rotate_left
      · intro W9 hSw; (try dsimp only at hSw); go_simp; (try with_reducible rfl)
      simp only [Act.put, List.getElem_toArray, List.getElem_cons_zero, List.getElem_cons_succ, List.setIfInBounds_toArray, List.set_cons_zero, List.set_cons_succ]
      refine wpAnyH_take (i := 2) (v := ?_) rfl (by kernel_rfl) (by kernel_rfl) (by kernel_rfl) (fun _ _ _ h => h) (Or.inl ⟨by rfl, ?_⟩) hHeld ?_
      rotate_left
      · intro W9 hSw; (try dsimp only at hSw); go_simp; (try with_reducible rfl)
      simp only [Act.put, List.getElem_toArray, List.getElem_cons_zero, List.getElem_cons_succ, List.setIfInBounds_toArray, List.set_cons_zero, List.set_cons_succ]
      refine wpAnyH_take (i := 3) (v := ?_) rfl (by kernel_rfl) (by kernel_rfl) (by kernel_rfl) (fun _ _ _ h => h) (Or.inl ⟨by rfl, ?_⟩) hHeld ?_
      rotate_left
      · intro W9 hSw; (try dsimp only at hSw); go_simp; (try with_reducible rfl)
      simp only [Act.put, List.getElem_toArray, List.getElem_cons_zero, List.getElem_cons_succ, List.setIfInBounds_toArray, List.set_cons_zero, List.set_cons_succ]
      refine wpAnyH_take (i := 4) (v := ?_) rfl (by kernel_rfl) (by kernel_rfl) (by kernel_rfl) (fun _ _ _ h => h) (Or.inl ⟨by rfl, ?_⟩) hHeld ?_
      rotate_left
      · intro W9 hSw; (try dsimp only at hSw); go_simp; (try with_reducible rfl)
      simp only [Act.put, List.getElem_toArray, List.getElem_cons_zero, List.getElem_cons_succ, List.setIfInBounds_toArray, List.set_cons_zero, List.set_cons_succ]
      refine wpAnyH_take (i := 5) (v := ?_) rfl (by kernel_rfl) (by kernel_rfl) (by kernel_rfl) (fun _ _ _ h => h) (Or.inl ⟨by rfl, ?_⟩) hHeld ?_
      rotate_left
      · intro W9 hSw; (try dsimp only at hSw); go_simp; (try with_reducible rfl)
      simp only [Act.put, List.getElem_toArray, List.getElem_cons_zero, List.getElem_cons_succ, List.setIfInBounds_toArray, List.set_cons_zero, List.set_cons_succ]
      refine wpAnyH_take (i := 6) (v := ?_) rfl (by kernel_rfl) (by kernel_rfl) (by kernel_rfl) (fun _ _ _ h => h) (Or.inl ⟨by rfl, ?_⟩) hHeld ?_
      rotate_left
      · intro W9 hSw; (try dsimp only at hSw); go_simp; (try with_reducible rfl)
      simp only [Act.put, List.getElem_toArray, List.getElem_cons_zero, List.getElem_cons_succ, List.setIfInBounds_toArray, List.set_cons_zero, List.set_cons_succ]
      refine wpAnyH_take (i := 7) (v := undef) rfl (by kernel_rfl) (by kernel_rfl) (by kernel_rfl) (fun _ _ _ h => h) (Or.inr ⟨by rfl, rfl⟩) hHeld ?_
      simp only [Act.put, List.getElem_toArray, List.getElem_cons_zero, List.getElem_cons_succ, List.setIfInBounds_toArray, List.set_cons_zero, List.set_cons_succ]
      refine wpAnyH_take (i := 8) (v := undef) rfl (by kernel_rfl) (by kernel_rfl) (by kernel_rfl) (fun _ _ _ h => h) (Or.inr ⟨by rfl, rfl⟩) hHeld ?_
      simp only [Act.put, List.getElem_toArray, List.getElem_cons_zero, List.getElem_cons_succ, List.setIfInBounds_toArray, List.set_cons_zero, List.set_cons_succ]
      refine wpAnyH_take (i := 9) (v := undef) rfl (by kernel_rfl) (by kernel_rfl) (by kernel_rfl) (fun _ _ _ h => h) (Or.inr ⟨by rfl, rfl⟩) hHeld ?_
      simp only [Act.put, List.getElem_toArray, List.getElem_cons_zero, List.getElem_cons_succ, List.setIfInBounds_toArray, List.set_cons_zero, List.set_cons_succ]
      refine wpAnyH_take (i := 10) (v := undef) rfl (by kernel_rfl) (by kernel_rfl) (by kernel_rfl) (fun _ _ _ h => h) (Or.inr ⟨by rfl, rfl⟩) hHeld ?_
      simp only [Act.put, List.getElem_toArray, List.getElem_cons_zero, List.getElem_cons_succ, List.setIfInBounds_toArray, List.set_cons_zero, List.set_cons_succ]
      refine wpAnyH_take (i := 11) (v := undef) rfl (by kernel_rfl) (by kernel_rfl) (by kernel_rfl) (fun _ _ _ h => h) (Or.inr ⟨by rfl, rfl⟩) hHeld ?_
      simp only [Act.put, List.getElem_toArray, List.getElem_cons_zero, List.getElem_cons_succ, List.setIfInBounds_toArray, List.set_cons_zero, List.set_cons_succ]
      refine wpAnyH_take (i := 12) (v := undef) rfl (by kernel_rfl) (by kernel_rfl) (by kernel_rfl) (fun _ _ _ h => h) (Or.inr ⟨by rfl, rfl⟩) hHeld ?_
      simp only [Act.put, List.getElem_toArray, List.getElem_cons_zero, List.getElem_cons_succ, List.setIfInBounds_toArray, List.set_cons_zero, List.set_cons_succ]
      refine wpAnyH_take (i := 13) (v := undef) rfl (by kernel_rfl) (by kernel_rfl) (by kernel_rfl) (fun _ _ _ h => h) (Or.inr ⟨by rfl, rfl⟩) hHeld ?_
      simp only [Act.put, List.getElem_toArray, List.getElem_cons_zero, List.getElem_cons_succ, List.setIfInBounds_toArray, List.set_cons_zero, List.set_cons_succ]
      refine wpAnyH_take (i := 14) (v := undef) rfl (by kernel_rfl) (by kernel_rfl) (by kernel_rfl) (fun _ _ _ h => h) (Or.inr ⟨by rfl, rfl⟩) hHeld ?_
      simp only [Act.put, List.getElem_toArray, List.getElem_cons_zero, List.getElem_cons_succ, List.setIfInBounds_toArray, List.set_cons_zero, List.set_cons_succ]
      refine wpAnyH_take (i := 15) (v := undef) rfl (by kernel_rfl) (by kernel_rfl) (by kernel_rfl) (fun _ _ _ h => h) (Or.inr ⟨by rfl, rfl⟩) hHeld ?_
      simp only [Act.put, List.getElem_toArray, List.getElem_cons_zero, List.getElem_cons_succ, List.setIfInBounds_toArray, List.set_cons_zero, List.set_cons_succ]
      refine wpAnyH_take (i := 16) (v := undef) rfl (by kernel_rfl) (by kernel_rfl) (by kernel_rfl) (fun _ _ _ h => h) (Or.inr ⟨by rfl, rfl⟩) hHeld ?_
      simp only [Act.put, List.getElem_toArray, List.getElem_cons_zero, List.getElem_cons_succ, List.setIfInBounds_toArray, List.set_cons_zero, List.set_cons_succ]
      refine wpAnyH_take (i := 17) (v := ?_) rfl (by kernel_rfl) (by kernel_rfl) (by kernel_rfl) (fun _ _ _ h => h) (Or.inl ⟨by rfl, ?_⟩) hHeld ?_
      rotate_left
      · intro W9 hSw; (try dsimp only at hSw); go_simp; (try with_reducible rfl)
      simp only [Act.put, List.getElem_toArray, List.getElem_cons_zero, List.getElem_cons_succ, List.setIfInBounds_toArray, List.set_cons_zero, List.set_cons_succ]
      refine wpAnyH_take (i := 18) (v := ?_) rfl (by kernel_rfl) (by kernel_rfl) (by kernel_rfl) (fun _ _ _ h => h) (Or.inl ⟨by rfl, ?_⟩) hHeld ?_
      rotate_left
      · intro W9 hSw; (try dsimp only at hSw); go_simp; (try with_reducible rfl)
      simp only [Act.put, List.getElem_toArray, List.getElem_cons_zero, List.getElem_cons_succ, List.setIfInBounds_toArray, List.set_cons_zero, List.set_cons_succ]
      refine wpAnyH_done (by kernel_rfl) ?_ _
      go_wp2_with fail
      go_ret
      exact ⟨rb hs.out.symm, hbw.out.drew⟩
end Go.Proofs.Yteaclphankckiaa
