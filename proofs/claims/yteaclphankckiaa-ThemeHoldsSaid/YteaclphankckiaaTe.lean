/- Layer 35: the paths of all moves of a tree, one after the other. -/
import Derived.Test.YteaclphankckiaaTd
import Derived.Test.YteaclphankckiaaTq
import Derived.Deep.CutBlock
namespace Go.Proofs.Yteaclphankckiaa
open Go Go.RowKit
set_option linter.unusedSimpArgs false
set_option linter.unusedVariables false

theorem Qd.below {w w' : World} {B : Nat} {x : Nd} (h : Qd w B x) {b0 : Nat} (hB : B < b0) (hb : Below b0 w w') : Qd w' B x :=
  ⟨(hb.cell (p := ⟨B, 0, none⟩) hB).trans h.c0, (hb.cell (p := ⟨B, 1, none⟩) hB).trans h.c1, (hb.cell (p := ⟨B, 2, none⟩) hB).trans h.c2, (hb.cell (p := ⟨B, 3, none⟩) hB).trans h.c3, Nat.lt_of_lt_of_le h.lt hb.size⟩
def ow (n j : Nat) : Bool := decide (((n : Int) - ((j : Int) - 1)) % 2 = 0)
theorem ow_top (n : Nat) : ow n n = false := decide_eq_false (by omega)
theorem ow_down (n j : Nat) : ow n j = !(ow n (j + 1)) := by
  unfold ow
  by_cases h : ((n : Int) - (((j + 1 : Nat) : Int) - 1)) % 2 = 0
  · rw [decide_eq_true h, decide_eq_false (by omega)]; rfl
  · rw [decide_eq_false h, decide_eq_true (by omega)]; rfl
theorem ow_rem (n j : Nat) : (((n : Int) - (j : Int)) % 2 == 0) = ow n (j + 1) := by
  unfold ow
  rw [Bool.eq_iff_iff, beq_iff_eq, decide_eq_true_iff]
  omega
/-- what a call of traces ends in -/
def TracesP (t : List Nd) (I : Nat → (Nat → Prop) → World → Prop) (O0 : Nat → Prop) (w : World) (e : Ending) (w' : World) : Prop :=
  e = .returned (.tuple #[]) ∧ ∃ O, I t.length O w' ∧ GFr O0 w w' ∧ ∀ b, O b → O0 b ∨ w.heap.size ≤ b
set_option maxRecDepth 100000 in
set_option maxHeartbeats 4000000 in
theorem ptraces (F : Nat) (caps : Array Value) (f q : Int) (I : Nat → (Nat → Prop) → World → Prop) (base : Nat) (O0 : Nat → Prop) (At : Option Addr) (t : List Nd) (ct : Nat) (w : World)
    (hF : ∀ (args : Array Value) (w : World), (callFunc F args).run Try.prog w = .ok (.enter F args) w) (hI : Stays base I) (hV : Visit F caps t base I) (hT : RecAt nEnc 4 w base At t) (hl : t.length ≤ 1000) (hok : okK f q t t.length = true) (hi0 : I 0 O0 w) (ho0 : ∀ b, O0 b → base ≤ b ∧ b < w.heap.size) (hbase : base ≤ w.heap.size) :
    Calls Try.prog 28 #[.slice At t.length ct, .func (.func F) #[] caps] w (TracesP t I O0 w) := by
  have hTH := Lib.hid hT
  have hokH := Lib.hid hok
  have hVH := Lib.hid hV
  have hFH := Lib.hid hF
  have hS0 := Lib.hid (TS.first hi0 hbase ho0)
  have h0 : Hid (∀ b, O0 b → base ≤ b) := fun b hb => (ho0 b hb).1
  have hIH := Lib.hid hI
  clear hT hok hV hi0 ho0 hI hF
  go_enter Try.func28, Try.ntmps28
  go_wp2_with fail
  go_loopw [4, 13] (fun s i wr => ∃ (k : Nat) (A : Option Addr) (c : Nat) (L : List Tr) (O : Nat → Prop), k ≤ t.length ∧ i = .int .i64 k ∧ s = .slice A L.length c ∧ Hid (isTr (back t k) L) ∧ Hid (TS I base O0 w k wr A c L O)) (fun _ i _ => t.length - (intOf i).toNat)
  case atStart => exact ⟨0, none, 0, [], O0, Nat.zero_le _, rfl, rfl, (by show isTr _ _; rw [back_zero]; exact isTr_nil), hS0⟩
  case round =>
    clear hS0
    obtain ⟨k, A, c, L, O, hk, rfl, rfl, hL, hS⟩ := hrel
    by_cases hkn : k < t.length
    · obtain ⟨x, hx⟩ : ∃ x, t[k]? = some x := ⟨_, List.getElem?_eq_getElem hkn⟩
      obtain ⟨bT, oT, rfl, hbT, m0, m1, m2, m3⟩ := nd4 (hS.out.recs h0.out hTH.out hbase) hx
      have hki : (k : Int) < (t.length : Int) := by omega
      obtain ⟨t0, t1⟩ := okK_ply hokH.out (Nat.le_of_lt hkn)
      have hch := okK_chain hokH.out (Nat.le_of_lt hkn)
      have hLl := isTr_len hch hL.out
      obtain ⟨_, x0, x1, _⟩ := nodeB_out (okK_at hokH.out hkn hx)
      have hpl : Hid (chain (back t (k + 1))) := okK_chain hokH.out hkn
      have hbk := Lib.hid (back_succ hx)
      have hcap := own_cap0 hS.out.row
      have hst := Lib.hid (isTr_step (x := x) hL.out)
      have hQ := Lib.hid (Qd.new wr x 59)
      have hbq : Hid (Below wr.heap.size wr (wr.alloc (.cells #[.int .i64 x.1, .int .i64 x.2.1, .int .i64 x.2.2.1, .int .i8 x.2.2.2] 59))) := (Below.refl _ _).alloc (Nat.le_refl _) _
      obtain ⟨L1, hL1⟩ : ∃ L1, L.take (x.1 - 1).toNat = L1 := ⟨_, rfl⟩
      rw [hL1] at hst
      have hxH := Lib.hid hx
      have hS1 := Lib.hid (((hS.out.next hIH.out hbq.out).cut (n := (x.1 - 1).toNat) (by omega)))
      rw [hL1] at hS1
      have hok1 : Hid (okTr L1) := by show _; rw [← hL1]; exact okTr_take hL.out.2 _
      have hL1l : L1.length = (x.1 - 1).toNat := by rw [← hL1, List.length_take]; omega
      have hrb : Hid (∀ b, (Value.slice A L1.length c).ownBlock = some b → b < wr.heap.size) := fun b hb => (World.ownsRow.lt hS.out.row b (by rw [← hb]; exact ownBlock_len _ _ _ _)).2
      obtain ⟨p, ma, mb, mc⟩ := x
      have x0' : 1 ≤ p := x0
      have x1' : p ≤ top (back t k) + 1 := x1
      have hn1' : L1.length = (p - 1).toNat := hL1l
      have hp1 : p - 1 = (L1.length : Int) := by omega
      have hn3 : (L1.length : Int) ≤ (c : Int) := by omega
      have hn4 : (0 : Int) ≤ (L1.length : Int) := Int.natCast_nonneg _
      have hk1 : L1.length ≤ 1000 := by omega
      have hw1 : IntKind.i64.wrap (p - 1) = (L1.length : Int) := by rw [hp1]; exact IntWalk.i64_in _ (by omega)
      clear hx x0 x1 hn1' hL1l hL1 hLl t0 t1 hch x1' hL
      replace hp1 := Lib.hid hp1
      replace x0' := Lib.hid x0'
      go_upto_region 4 with fail
      clear m0 m1 m2 m3 hQ
      have hQ := Lib.hid (Qd.new wr (p, ma, mb, mc) 59)
      generalize hw1e : wr.alloc (.cells #[.int .i64 p, .int .i64 ma, .int .i64 mb, .int .i8 mc] 59) = w1 at *
      have hQ1 : Hid (Qd w1 wr.heap.size (p, ma, mb, mc)) := hQ.out
      have hbq1 : Hid (Below wr.heap.size wr w1) := hbq.out
      have hs1 : wr.heap.size < w1.heap.size := hQ1.out.lt
      clear hQ hbq hw1e
      generalize wr.heap.size = BQ at *
      generalize wr = wo at *
      obtain ⟨bb, hbb⟩ : ∃ bb, bix false ma (mvs L1).reverse = bb := ⟨_, rfl⟩
      have hM : Hid ((mvs L1).reverse = dn (mvs L1) L1.length) := by show _ = _; rw [← mvs_len L1]; exact (dn_all _).symm
      have hbb0 : Hid (bix (ow L1.length L1.length) ma (dn (mvs L1) L1.length) = bb) := by show _ = _; rw [ow_top, ← hM.out]; exact hbb
      have hst2 : Hid (isTr (back t (k + 1)) (L1 ++ [((ma, mb, mc), bb)])) := by
        show isTr _ _
        rw [hbk.out, ← hbb]
        exact hst.out
      have hbd : -1 ≤ bb ∧ bb < (L1.length : Int) := by
        have := bix_bd ma (mvs L1).reverse false
        rw [hbb, List.length_reverse, mvs_len] at this
        exact this
      clear hst
      replace hbb := Lib.hid hbb
      have q0 : w1.cell? ⟨BQ, 0, none⟩ = some (.int .i64 p) := hQ1.out.c0
      have q1 : w1.cell? ⟨BQ, 1, none⟩ = some (.int .i64 ma) := hQ1.out.c1
      have q2 : w1.cell? ⟨BQ, 2, none⟩ = some (.int .i64 mb) := hQ1.out.c2
      have q3 : w1.cell? ⟨BQ, 3, none⟩ = some (.int .i8 mc) := hQ1.out.c3
      go_upto_block 2 with fail
      go_cut [7, 8] from 26 to 46 (fun s7 s8 wc => s7 = .int .i64 bb ∧ Hid (Below w1.heap.size w1 wc))
      case first =>
        clear hst2 hVH hIH hTH hS
        go_wp2_with fail
        go_loopw [7, 8] (fun s7 s8 wr => ∃ (j : Nat) (y : Int), j ≤ L1.length ∧ s7 = .int .i64 (-1) ∧ s8 = .int .i64 y ∧ y = (j : Int) - 1 ∧ Hid (bix (ow L1.length j) ma (dn (mvs L1) j) = bb) ∧ Hid (Below w1.heap.size w1 wr)) (fun _ s8 _ => (intOf s8 + 1).toNat)
        case atStart => exact ⟨L1.length, _, Nat.le_refl _, rfl, rfl, by first | rfl | omega, hbb0, Below.refl _ _⟩
        case round =>
          clear q0 q1 q2 q3
          obtain ⟨j, y, hj, rfl, rfl, hy, hbx, hbl⟩ := hrel
          by_cases hj0 : 0 < j
          · obtain ⟨i, rfl⟩ : ∃ i, j = i + 1 := ⟨j - 1, by omega⟩
            obtain rfl : y = (i : Int) := by omega
            clear hy
            obtain ⟨e, he⟩ : ∃ e, L1[i]? = some e := ⟨_, List.getElem?_eq_getElem (by omega)⟩
            have hR := (RecAt.of_own trEnc_len rfl hS1.out.row).below (Nat.le_refl _) hbl.out
            obtain ⟨bR, oR, rfl, hbR, r0, r1, r3⟩ := tr4 hR he
            have q1 := (hQ1.out.below hs1 hbl.out).c1
            have hi0 : (0 : Int) ≤ (i : Int) := Int.natCast_nonneg _
            have hiI : (i : Int) < (L1.length : Int) := by omega
            have hrm := ow_rem L1.length i
            have hdn := Lib.hid (dn_succ (mvs_get he))
            have hdl := Lib.hid (dn_len (L := mvs L1) (k := i) (by rw [mvs_len]; omega))
            have hod := Lib.hid (ow_down L1.length i)
            replace he := Lib.hid he
            obtain ⟨⟨ea, eb, ec⟩, ed⟩ := e
            have r1' : wr.cell? ⟨bR, oR + i * 4 + 1, none⟩ = some (.int .i64 eb) := r1
            have q1' : wr.cell? ⟨BQ, 1, none⟩ = some (.int .i64 ma) := q1
            clear r0 r1 r3 q1
            by_cases hto : eb = ma
            · have hteq : (eb == ma) = true := by rw [hto]; exact beq_self_eq_true _
              cases hown : ow L1.length (i + 1) with
              | true =>
                rw [hown] at hrm
                have hfin : Hid (bb = (i : Int)) := by show _ = _; rw [← hbx.out, hown, hdn.out, bix_own (m := (ea, eb, ec)) hto, hdl.out]
                clear hto
                go_upto_region 9 with fail
                go_quiet (fail)
                go_wp2_with fail
                go_meet
                exact ⟨vi hfin.out.symm, below_drewN hbl.out _⟩
              | false =>
                rw [hown] at hrm
                have hfin : Hid (bb = -1) := by show _ = _; rw [← hbx.out, hown, hdn.out, bix_end (m := (ea, eb, ec)) hto]
                clear hto
                go_upto_region 9 with fail
                go_quiet (fail)
                go_wp2_with fail
                go_meet
                exact ⟨vi hfin.out.symm, below_drewN hbl.out _⟩
            · have hteq : (eb == ma) = false := by rw [beq_eq_false_iff_ne]; exact hto
              have hnx : Hid (bix (ow L1.length i) ma (dn (mvs L1) i) = bb) := by show _ = _; rw [hod.out, ← hbx.out, hdn.out, bix_other (m := (ea, eb, ec)) hto]
              clear hto hrm
              go_upto_region 9 with fail
              go_quiet (fail)
              go_wp2_with fail
              go_roundw
              case rel => exact ⟨i, _, by omega, rfl, rfl, by first | rfl | go_num | omega, hnx, below_drewN hbl.out _⟩
              case measure => simp [intOf]; try omega
          · obtain rfl : j = 0 := by omega
            have hy0 : y = -1 := by omega
            subst hy0
            clear hy
            have hfin : Hid (bb = -1) := by show _ = _; rw [← hbx.out, dn_zero]; rfl
            go_wp2_with fail
            go_meet
            exact ⟨vi hfin.out.symm, hbl.out⟩
      obtain ⟨rfl, hbc⟩ := hcut
      have hS2 := Lib.hid (hS1.out.next hIH.out hbc.out)
      have hQ2 := Lib.hid (hQ1.out.next hbc.out)
      have hcs := hbc.out.size
      clear hbc hbb0 hok1 hM hQ1
      generalize wc = w2 at *
      have q0 : w2.cell? ⟨BQ, 0, none⟩ = some (.int .i64 p) := hQ2.out.c0
      have q1 : w2.cell? ⟨BQ, 1, none⟩ = some (.int .i64 ma) := hQ2.out.c1
      have q2 : w2.cell? ⟨BQ, 2, none⟩ = some (.int .i64 mb) := hQ2.out.c2
      have q3 : w2.cell? ⟨BQ, 3, none⟩ = some (.int .i8 mc) := hQ2.out.c3
      have hbQ : BQ < w2.heap.size := hQ2.out.lt
      obtain ⟨L2, hL2⟩ : ∃ L2, L1 ++ [((ma, mb, mc), bb)] = L2 := ⟨_, rfl⟩
      rw [hL2] at hst2
      have hL2l : L2.length = L1.length + 1 := by rw [← hL2, List.length_append]; rfl
      replace hL2 := Lib.hid hL2
      replace hL2l := Lib.hid hL2l
      go_upto_region 13 with (at_builtin; refine wpList_append_recs trRow trEnc_len trEnc_one rfl _ _ rfl w.heap.size A c L1 rfl (World.ownsRow.alloc hS2.out.row _) _ 1 [((ma, mb, mc), bb)] rfl (recs_tr w2 ((ma, mb, mc), bb) _ rfl) (by simp only [List.length_cons, List.length_nil]; omega) (by have := hS2.out.fr.size; simp; omega) ?_; intro A3 c3 w3 hown3 hg3 hat3; rw [hL2.out] at hown3 hat3 ⊢; replace hown3 := Lib.hid hown3; replace hg3 := Lib.hid hg3; replace hat3 := Lib.hid hat3)
      have hpt : Hid (pth (back t (k + 1)) = (mb :: restP L2 (L1.length + 1)).reverse) := by
        show _ = _
        have h := pth_tr (r := back t (k + 1)) (L1 := L1) (m := (ma, mb, mc)) (b := bb) (by rw [hL2.out]; exact hst2.out)
        rw [h, hL2.out]
      have hpl2 := Lib.hid (pth_len hpl.out (by rw [hbk.out]; exact List.cons_ne_nil _ _))
      have hS3 : Hid (TS I base O0 w k w3 A3 c3 L2 O) := (hS2.out.next hIH.out ((Below.refl _ _).alloc (Nat.le_refl _) _)).app hIH.out hown3.out hg3.out hat3.out
      have hQ3 : Hid (Qd w3 BQ (p, ma, mb, mc)) := (hQ2.out.next ((Below.refl _ _).alloc (Nat.le_refl _) _)).of_block (hg3.out.block BQ (by simp; omega) (fun e => by have := hrb.out BQ e.symm; omega)) hg3.out.size
      clear q0 q1 q2 q3 hown3 hg3 hat3 hS2 hQ2
      have q1 : w3.cell? ⟨BQ, 1, none⟩ = some (.int .i64 ma) := hQ3.out.c1
      have q2 : w3.cell? ⟨BQ, 2, none⟩ = some (.int .i64 mb) := hQ3.out.c2
      go_upto_region 14 with fail
      have hop4 : Hid (Own1 iEnc 1 w3.heap.size 3 (w3.alloc (.cells #[.int .i64 mb] 3)) (some ⟨w3.heap.size, 0, none⟩) 1 [mb]) := World.ownsRow_lit w3 #[.int .i64 mb] 1 (Nat.le_refl _) (by unfold maxLen; omega) rfl
      have hb4 : Hid (Below w3.heap.size w3 (w3.alloc (.cells #[.int .i64 mb] 3))) := (Below.refl _ _).alloc (Nat.le_refl _) _
      obtain ⟨full, hfull⟩ : ∃ full, mb :: restP L2 (L1.length + 1) = full := ⟨_, rfl⟩
      rw [hfull] at hpt
      have hfl : full.length ≤ 1001 := by
        have h1 := hpl2.out
        have h2 : top (back t (k + 1)) ≤ ((k + 1 : Nat) : Int) := (okK_ply hokH.out (k := k + 1) (by omega)).2
        rw [hpt.out, List.length_reverse] at h1
        obtain ⟨_, h1⟩ := h1
        omega
      have hL2l' := hL2l.out
      have hL2n : L2.length ≤ 1001 := by omega
      have hfull' : Hid ([mb] ++ restP L2 L2.length = full) := by show _ = _; rw [hL2l']; exact hfull
      have hL2p : 0 < L2.length := by omega
      replace hfull := Lib.hid hfull
      clear hL2l' q1 q2 hbd
      generalize w3.alloc (.cells #[.int .i64 mb] 3) = w4 at *
      generalize wr = wo at *
      go_wp2_with fail
      go_loopw [9, 10] (fun s9 s10 wr => ∃ (m : Nat) (y : Int) (Ap : Option Addr) (cp : Nat) (o : List Int), m ≤ L2.length ∧ s10 = .int .i64 y ∧ y = (m : Int) - 1 ∧ s9 = .slice Ap o.length cp ∧ Hid (o ++ restP L2 m = full) ∧ Hid (Own1 iEnc 1 w3.heap.size 3 wr Ap cp o) ∧ Hid (Below w3.heap.size w3 wr)) (fun _ s10 _ => (intOf s10 + 1).toNat)
      case atStart => exact ⟨L2.length, _, _, _, [mb], Nat.le_refl _, rfl, by first | rfl | omega, rfl, hfull', hop4, hb4⟩
      case round =>
        clear hop4 hb4 hfull'
        obtain ⟨m, y, Ap, cp, o, hm, rfl, hy, rfl, hoo, hop, hbl⟩ := hrel
        have hol : o.length ≤ full.length := by rw [← hoo.out, List.length_append]; omega
        have hsz := hbl.out.size
        by_cases hm0 : 0 < m
        · obtain ⟨i, rfl⟩ : ∃ i, m = i + 1 := ⟨m - 1, by omega⟩
          obtain rfl : y = (i : Int) := by omega
          clear hy
          obtain ⟨e, he⟩ : ∃ e, L2[i]? = some e := ⟨_, List.getElem?_eq_getElem (by omega)⟩
          have hR := (RecAt.of_own trEnc_len rfl hS3.out.row).below (Nat.le_refl _) hbl.out
          obtain ⟨bR, oR, rfl, hbR, r0, r1, r3⟩ := tr4 hR he
          obtain ⟨m1, hm1, hed, hrs⟩ := restP_step hst2.out.2 he
          have hi0 : (0 : Int) ≤ (i : Int) := Int.natCast_nonneg _
          have hiI : (i : Int) < (L2.length : Int) := by omega
          replace he := Lib.hid he
          obtain ⟨⟨ea, eb, ec⟩, ed⟩ := e
          have r0' : wr.cell? ⟨bR, oR + i * 4, none⟩ = some (.int .i64 ea) := r0
          have r3' : wr.cell? ⟨bR, oR + i * 4 + 3, none⟩ = some (.int .i64 ed) := r3
          have hed' : ed = (m1 : Int) - 1 := hed
          have hedm : -1 ≤ ed ∧ ed ≤ 1001 := by omega
          obtain ⟨o2, ho2⟩ : ∃ o2, o ++ [ea] = o2 := ⟨_, rfl⟩
          have hoo2 : Hid (o2 ++ restP L2 m1 = full) := by
            show _ = _
            rw [← hoo.out, hrs, ← ho2, List.append_assoc]; rfl
          clear r0 r1 r3 hed hrs hoo hR
          replace hed' := Lib.hid hed'
          replace ho2 := Lib.hid ho2
          go_upto_region 16 with (at_builtin; refine wpList_append_recs intRow iEnc_len iEnc_one rfl _ _ rfl w3.heap.size Ap cp o rfl (World.ownsRow.alloc hop.out _) _ 1 [ea] rfl (recs_i _ _ _ rfl) (by simp only [List.length_cons, List.length_nil]; omega) (by simp; omega) ?_; intro A5 c5 w5 hown5 hg5 _; rw [ho2.out] at hown5 ⊢; replace hown5 := Lib.hid hown5; replace hg5 := Lib.hid hg5)
          have hbl5 : Hid (Below w3.heap.size w3 w5) := (hbl.out.alloc hsz _).grown hg5.out (by simp; omega) (fun b hb => (World.ownsRow.lt hop.out b hb).1)
          have r5 : w5.cell? ⟨bR, oR + i * 4 + 3, none⟩ = some (.int .i64 ed) := by
            have h1 : (wr.alloc (.cells #[.int .i64 ea] 3)).cell? ⟨bR, oR + i * 4 + 3, none⟩ = some (.int .i64 ed) := (((Below.refl _ _).alloc (Nat.le_refl _) _).cell (p := ⟨bR, oR + i * 4 + 3, none⟩) (by show bR < _; omega)).trans r3'
            exact (World.cell?_of_block (a := ⟨bR, oR + i * 4 + 3, none⟩) (hg5.out.block bR (by simp; omega) (fun e => by have := (World.ownsRow.lt hop.out bR e.symm).1; omega))).trans h1
          clear r0' r3' hg5 hbl
          go_wp2_with fail
          go_roundw
          case rel => exact ⟨m1, _, A5, c5, o2, by omega, rfl, hed'.out, rfl, hoo2, hown5, hbl5⟩
          case measure => have := hed'.out; simp [intOf]; omega
        · obtain rfl : m = 0 := by omega
          have hy0 : y = -1 := by omega
          subst hy0
          clear hy
          obtain rfl : o = full := by rw [← hoo.out]; exact (List.append_nil o).symm
          have hS5 := Lib.hid (hS3.out.next hIH.out hbl.out)
          clear hoo hol
          go_wp2_with (first
            | (go_at_call 46; refine (preverse _ _ _ _ _ hop.out (by omega)).mono ?_; rintro e w6 ⟨rfl, hop6, hg6⟩; replace hop6 := Lib.hid hop6; replace hg6 := Lib.hid hg6))
          rw [hFH.out, Oper.upon_enter]
          have hb6 : ∀ b, (Value.slice Ap o.length cp).ownBlock = some b → w3.heap.size ≤ b ∧ b < w6.heap.size := fun b hb => ⟨(World.ownsRow.lt hop.out b hb).1, Nat.lt_of_lt_of_le (World.ownsRow.lt hop.out b hb).2 hg6.out.size⟩
          have hrw : ∀ b, (Value.slice A3 L2.length c3).ownBlock = some b → b < w3.heap.size := fun b hb => (World.ownsRow.lt hS3.out.row b hb).2
          have hwz := hS3.out.fr.size
          have hS6 : Hid (TS I base O0 w k w6 A3 c3 L2 O) := hS5.out.grown hIH.out hg6.out (fun b hb => by
            have h1 := (hb6 b hb).1
            exact ⟨fun ho => by have := (hS3.out.ob b ho).2; omega, by omega, fun e => by have := hrw b e; omega⟩)
          have hlp : o.length = (pth (back t (k + 1))).length := by rw [hpt.out, List.length_reverse]
          have hop7 : Own1 iEnc 1 base 3 w6 Ap cp (pth (back t (k + 1))) := by
            rw [hpt.out]
            have h7 := hop6.out
            exact own_lower h7 (by omega)
          have hcallv := hVH.out k (p, ma, mb, mc) O w6 Ap cp hxH.out hS6.out.inv hS6.out.ob (by have := hS6.out.fr.size; omega) hop7 (fun b hb ho => by
            rw [← hlp] at hb
            have := (hb6 b hb).1
            have := (hS3.out.ob b ho).2
            omega)
          rw [← hlp] at hcallv
          refine hcallv.mono ?_
          rintro e w7 ⟨rfl, O', hi7, hv7⟩
          have hS7 := Lib.hid (hS6.out.visit hbase hi7 hv7 (fun b hb => ⟨by have := (hb6 b hb).1; omega, fun e => by have := hrw b e; have := (hb6 b hb).1; omega⟩))
          clear hcallv hop7 hS6 hS5 hi7 hv7 hb6 hrw
          replace hlp := Lib.hid hlp
          go_wp2_with fail
          go_roundw
          case rel => exact ⟨k + 1, A3, c3, L2, O', by omega, by go_num, rfl, hst2, hS7⟩
          case measure => simp [intOf]; omega
    · have hke : k = t.length := by omega
      subst hke
      have hS9 := Lib.hid hS.out
      go_wp2_with fail
      refine bodyPost_ret (results_none rfl _ _ _) rfl ?_
      exact ⟨rfl, O, hS9.out.inv, hS9.out.fr, hS9.out.on⟩
end Go.Proofs.Yteaclphankckiaa
