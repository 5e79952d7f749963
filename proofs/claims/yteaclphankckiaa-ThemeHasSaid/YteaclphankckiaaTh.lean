/- Layer 35: the reference's path of a move: its walk. -/
import Derived.Test.YteaclphankckiaaTg
namespace Go.Proofs.Yteaclphankckiaa
open Go Go.RowKit
set_option linter.unusedSimpArgs false
set_option linter.unusedVariables false

structure Mv3 (w : World) (B : Nat) (x : Mv) : Prop where
  c0 : w.cell? ⟨B, 0, none⟩ = some (.int .i64 x.1)
  c1 : w.cell? ⟨B, 1, none⟩ = some (.int .i64 x.2.1)
  lt : B < w.heap.size
theorem Mv3.new (w : World) (x : Mv) (t : TypeId) : Mv3 (w.alloc (.cells #[.int .i64 x.1, .int .i64 x.2.1, .int .i8 x.2.2] t)) w.heap.size x := by
  have h2 := heap_alloc_new w (.cells #[.int .i64 x.1, .int .i64 x.2.1, .int .i8 x.2.2] t)
  refine ⟨?_, ?_, by simp⟩ <;> (rw [cell_of_row _ _ _ _ _ _ h2]; rfl)
theorem par_eq {n j : Nat} {p : Int} (hp : (n : Int) = p - 1) : (((j : Int) + 1) % 2 != p % 2) = !(ow n (j + 1)) := by
  unfold ow
  by_cases h : ((n : Int) - (((j + 1 : Nat) : Int) - 1)) % 2 = 0
  · rw [decide_eq_true h, bne_eq_false_iff_eq.2 (by omega)]; rfl
  · rw [decide_eq_false h, bne_iff_ne.2 (by omega)]; rfl
set_option maxRecDepth 100000 in
set_option maxHeartbeats 4000000 in
theorem rpath (At : Option Addr) (t : List Nd) (ct i : Nat) (x : Nd) (w : World) (hT : RecAt nEnc 4 w w.heap.size At t) (hl : t.length ≤ 1000) (hx : t[i]? = some x) (hc : chain (back t (i + 1))) (hx1 : x.1 ≤ 1001) :
    Calls Try.prog 13 #[.slice At t.length ct, .int .i64 (i : Int)] w fun e w' => ∃ A c, e = .returned (.slice A (pth (back t (i + 1))).length c) ∧ O1 iEnc 1 w.heap.size 3 w w' A c (pth (back t (i + 1))) := by
  have hTH := Lib.hid hT
  have hil : i < t.length := (List.getElem?_eq_some_iff.1 hx).1
  have hiI : (i : Int) < (t.length : Int) := by omega
  have hi0 : (0 : Int) ≤ (i : Int) := Int.natCast_nonneg _
  have hp1 : 1 ≤ x.1 := by rw [back_succ hx] at hc; exact hc.1
  have hML := lineM_len hx hc
  have hLI := lineI_len t i x
  have hat := Lib.hid (fun k m (h : (lineM t i x)[k]? = some m) => lineI_at (by omega) h hML)
  have hpm := lineM_pth hx hc
  obtain ⟨b, off, rfl, hb, e0, e1, e2, e3⟩ := nd4 hT hx
  obtain ⟨full, hfull⟩ : ∃ full, pth (back t (i + 1)) = full := ⟨_, rfl⟩
  rw [hfull] at hpm ⊢
  have hxH := Lib.hid hx
  have hcl : Hid (∀ W, Below w.heap.size w W → Calls Try.prog 33 #[.slice (some ⟨b, off, none⟩) t.length ct, .int .i64 (i : Int)] W fun e w' => ∃ A c, e = .returned (.slice A (lineI t i x.1).length c) ∧ O1 iEnc 1 W.heap.size 3 W w' A c (lineI t i x.1)) := fun W h =>
    rline _ t ct i x W ((hT.below (Nat.le_refl _) h).more h.size) hl hx (by omega) hx1
  obtain ⟨n, hn⟩ : ∃ n, (lineM t i x).length = n := ⟨_, rfl⟩
  rw [hn] at hML hLI hpm
  obtain ⟨LI, hLIe⟩ : ∃ LI, lineI t i x.1 = LI := ⟨_, rfl⟩
  rw [hLIe] at hLI hcl hat
  obtain ⟨M, hMe⟩ : ∃ M, lineM t i x = M := ⟨_, rfl⟩
  rw [hMe] at hat hn hpm
  obtain ⟨p, ma, mb, mc⟩ := x
  have hst : Hid ((foll (ow n n) ma (dn M n)).reverse ++ [ma, mb] = full) := by
    show _ = _
    rw [hpm, ow_top, List.reverse_cons, List.reverse_cons, List.append_assoc]
    rfl
  have hMl : n = p - 1 := hML
  have hp1' : 1 ≤ p := hp1
  have hx1' : p ≤ 1001 := hx1
  have e0' : w.cell? ⟨b, off + i * 4, none⟩ = some (.int .i64 p) := e0
  have e1' : w.cell? ⟨b, off + i * 4 + 1, none⟩ = some (.int .i64 ma) := e1
  have e2' : w.cell? ⟨b, off + i * 4 + 2, none⟩ = some (.int .i64 mb) := e2
  have e3' : w.cell? ⟨b, off + i * 4 + 3, none⟩ = some (.int .i8 mc) := e3
  have hn1 : n ≤ 1000 := by omega
  have hMn : M.length ≤ n := by omega
  have hMn2 : n ≤ M.length := by omega
  clear hT hx hc hp1 hML hpm hfull hx1 e0 e1 e2 e3 hLIe hMe hn
  replace hMl := Lib.hid hMl
  go_enter Try.func13, Try.ntmps13
  go_upto_region 2 with fail
  have hm3 := Lib.hid (Mv3.new w (ma, mb, mc) 57)
  have hb1 : Hid (Below w.heap.size w (w.alloc (.cells #[.int .i64 ma, .int .i64 mb, .int .i8 mc] 57))) := (Below.refl _ _).alloc (Nat.le_refl _) _
  have hs1 : w.heap.size ≤ (w.alloc (.cells #[.int .i64 ma, .int .i64 mb, .int .i8 mc] 57)).heap.size := by simp
  generalize w.alloc (.cells #[.int .i64 ma, .int .i64 mb, .int .i8 mc] 57) = w1 at *
  have f0 : w1.cell? ⟨w.heap.size, 0, none⟩ = some (.int .i64 ma) := hm3.out.c0
  have f1 : w1.cell? ⟨w.heap.size, 1, none⟩ = some (.int .i64 mb) := hm3.out.c1
  go_upto_region 3 with fail
  have hO2 : Hid (O1 iEnc 1 w.heap.size 3 w (w1.alloc (.cells #[.int .i64 ma, .int .i64 mb] 3)) (some ⟨w1.heap.size, 0, none⟩) 2 [ma, mb]) := ⟨own_lit2 _ _ hs1, hb1.out.alloc hs1 _, by simp; omega⟩
  clear f0 f1 hm3 e1' e2' e3'
  generalize hw2 : w1.alloc (.cells #[.int .i64 ma, .int .i64 mb] 3) = w2 at *
  clear hw2
  generalize (some ⟨w1.heap.size, 0, none⟩ : Option Addr) = A0 at *
  go_upto_region 5 with (go_at_call 33; refine (hcl.out _ hO2.out.below).mono ?_; rintro e w3 ⟨AL, cL, rfl, hOL⟩; replace hOL := Lib.hid hOL)
  have hO3 := Lib.hid (hO2.out.next hOL.out.below)
  have hLR := Lib.hid (hOL.out.recs iEnc_len)
  have hz3 := hOL.out.below.size
  have hz2 := hO2.out.size
  clear hO2 hOL hcl hb1 hs1
  go_wp2_with fail
  have hbw3 := Lib.hid hO3.out.below
  have hown3 : Hid (Own1 iEnc 1 w.heap.size 3 w3 A0 2 [ma, mb]) := hO3.out.own
  clear hO3
  go_loopw [6, 8] (fun s6 s8 wr => ∃ (m : Nat) (y sq : Int) (A2 : Option Addr) (c2 : Nat) (o : List Int), m ≤ n ∧ s8 = .int .i64 y ∧ y = (m : Int) - 1 ∧ s6 = .slice A2 o.length c2 ∧ o.length + m ≤ n + 2 ∧ Hid (o[0]? = some sq) ∧ Hid ((foll (ow n m) sq (dn M m)).reverse ++ o = full) ∧ Hid (Own1 iEnc 1 w.heap.size 3 wr A2 c2 o) ∧ Hid (Below w3.heap.size w3 wr)) (fun _ s8 _ => (intOf s8 + 1).toNat)
  case atStart => exact ⟨n, _, ma, _, _, [ma, mb], Nat.le_refl _, rfl, by first | rfl | omega, rfl, by simp; omega, rfl, hst, hown3, Below.refl _ _⟩
  case round =>
    clear hst hown3
    obtain ⟨m, y, sq, A2, c2, o, hm, rfl, hy, rfl, hol, hos, hoo, hown, hbl⟩ := hrel
    have hbw := Lib.hid (hbw3.out.trans (hbl.out.mono (by omega)))
    have hzr := hbl.out.size
    by_cases hm0 : 0 < m
    · obtain ⟨j, rfl⟩ : ∃ j, m = j + 1 := ⟨m - 1, by omega⟩
      obtain rfl : y = (j : Int) := by omega
      clear hy
      obtain ⟨v, hv⟩ : ∃ v, M[j]? = some v := ⟨_, List.getElem?_eq_getElem (by omega)⟩
      obtain ⟨a, hla, hai, hta⟩ := hat.out j v hv
      obtain ⟨b', off', he, _, f0, f1, f2, f3⟩ := nd4 hTH.out hta
      obtain ⟨rfl, rfl⟩ : b' = b ∧ off' = off := by
        simp only [Option.some.injEq, Addr.mk.injEq, and_true] at he
        exact ⟨he.1.symm, he.2.symm⟩
      obtain ⟨bL, oL, rfl, hbL, g0⟩ := rec1 hLR.out hla
      have hRo := RecAt.of_own iEnc_len rfl hown.out
      obtain ⟨bO, oO, rfl, hbO, s0⟩ := rec1 (k := 0) (x := sq) hRo hos.out
      have hj0 : (0 : Int) ≤ (j : Int) := Int.natCast_nonneg _
      have ha0 : (0 : Int) ≤ (a : Int) := Int.natCast_nonneg _
      have haI : (a : Int) < (t.length : Int) := by omega
      have hjL : (j : Int) < (LI.length : Int) := by omega
      have g0' : wr.cell? ⟨bL, oL + j, none⟩ = some (.int .i64 (a : Int)) := (hbl.out.cell (p := ⟨bL, oL + j, none⟩) hbL).trans g0
      have m0 := (hbw.out.cell (p := ⟨b', off' + a * 4, none⟩) hb).trans f0
      have m1 := (hbw.out.cell (p := ⟨b', off' + a * 4 + 1, none⟩) hb).trans f1
      have m2 := (hbw.out.cell (p := ⟨b', off' + a * 4 + 2, none⟩) hb).trans f2
      have m3 := (hbw.out.cell (p := ⟨b', off' + a * 4 + 3, none⟩) hb).trans f3
      have mp := (hbw.out.cell (p := ⟨b', off' + i * 4, none⟩) hb).trans e0'
      have hdn := Lib.hid (dn_succ hv)
      have hod := Lib.hid (ow_down n j)
      have hpar := par_eq (j := j) hMl.out
      have ht1 : ((j : Int) + 1).tmod 2 = ((j : Int) + 1) % 2 := Int.tmod_eq_emod_of_nonneg (by omega)
      have ht2 : p.tmod 2 = p % 2 := Int.tmod_eq_emod_of_nonneg (by omega)
      clear he f0 f1 f2 f3 g0 hla hta hRo
      replace hv := Lib.hid hv
      obtain ⟨va, vb, vc⟩ := v
      have hbr : wr.heap.size = wr.heap.size := rfl
      have hQ := Lib.hid (Qd.new wr ((j : Int) + 1, va, vb, vc) 59)
      have hbq : Hid (Below wr.heap.size wr (wr.alloc (.cells #[.int .i64 ((j : Int) + 1), .int .i64 va, .int .i64 vb, .int .i8 vc] 59))) := (Below.refl _ _).alloc (Nat.le_refl _) _
      go_upto_region 8 with fail
      generalize wr.alloc (.cells #[.int .i64 ((j : Int) + 1), .int .i64 va, .int .i64 vb, .int .i8 vc] 59) = w5 at *
      have hbl5 := Lib.hid (hbl.out.trans (hbq.out.mono hzr))
      have hown5 : Hid (Own1 iEnc 1 w.heap.size 3 w5 (some ⟨bO, oO, none⟩) c2 o) := World.ownsRow.kept hown.out (grown_of_below hbq.out) (.inr (by simp [Value.ownBlock]))
      have q0 : w5.cell? ⟨wr.heap.size, 0, none⟩ = some (.int .i64 ((j : Int) + 1)) := hQ.out.c0
      have q1 : w5.cell? ⟨wr.heap.size, 1, none⟩ = some (.int .i64 va) := hQ.out.c1
      have q2 : w5.cell? ⟨wr.heap.size, 2, none⟩ = some (.int .i64 vb) := hQ.out.c2
      have s5 : w5.cell? ⟨bO, oO, none⟩ = some (.int .i64 sq) := (hbq.out.cell (p := ⟨bO, oO, none⟩) hbO).trans s0
      have mp5 : w5.cell? ⟨b', off' + i * 4, none⟩ = some (.int .i64 p) := (hbq.out.cell (p := ⟨b', off' + i * 4, none⟩) (Nat.lt_of_lt_of_le hb hbw.out.size)).trans mp
      clear m0 m1 m2 m3 mp s0 g0' hbq hown hQ
      have hpos2 : 0 < o.length := (List.getElem?_eq_some_iff.1 hos.out).1
      have hpos : (0 : Int) < (o.length : Int) := by omega
      have hne : o ≠ [] := by rintro rfl; simp at hpos2
      by_cases hto : vb = sq
      · have hteq : (vb != sq) = false := by rw [hto]; exact bne_self_eq_false _
        cases hown2 : ow n (j + 1) with
        | false =>
          rw [hown2] at hpar
          have hfin : Hid (o = full) := by show _ = _; rw [← hoo.out, hown2, hdn.out, foll_end (m := (va, vb, vc)) hto]; rfl
          clear hto
          obtain rfl : full = o := hfin.out.symm
          go_quiet (fail)
          go_wp2_with fail
          go_quiet (fail)
          go_wp2_with fail
          go_ret
          exact ⟨some ⟨bO, oO, none⟩, c2, rfl, ⟨hown5.out, below_drewN (below_drewN (hbw3.out.trans (hbl5.out.mono (by omega))) _) _, by have := hbl5.out.size; show w.heap.size ≤ w5.heap.size; omega⟩⟩
        | true =>
          rw [hown2] at hpar
          obtain ⟨o2, ho2⟩ : ∃ o2, [va] ++ o = o2 := ⟨_, rfl⟩
          have hoo2 : Hid ((foll (ow n j) va (dn M j)).reverse ++ o2 = full) := by
            show _ = _
            rw [← hoo.out, hown2, hdn.out, foll_own (m := (va, vb, vc)) hto, List.reverse_cons, hod.out, hown2, List.append_assoc, ← ho2]
            rfl
          have ho20 : Hid (o2[0]? = some va) := by show _ = _; rw [← ho2]; rfl
          have ho2l : o2.length + j ≤ n + 2 := by rw [← ho2, List.length_append, List.length_cons, List.length_nil]; omega
          clear hto hoo hod hdn
          replace ho2 := Lib.hid ho2
          go_quiet (fail)
          go_wp2_with fail
          go_quiet (fail)
          go_wp2_with (at_builtin; refine wpList_append_recs intRow iEnc_len iEnc_one rfl _ _ rfl w.heap.size (some ⟨w5.heap.size, 0, none⟩) 1 [va] rfl (own_lit1 _ (by have := hbl5.out.size; show w.heap.size ≤ w5.heap.size; omega)) (some ⟨bO, oO, none⟩) c2 o rfl (RecAt.of_own iEnc_len rfl (World.ownsRow.alloc (w := w5) hown5.out (.cells #[.int .i64 va] 3))) (by simp only [List.length_cons, List.length_nil]; omega) (by have := hbl5.out.size; simp; omega) ?_; intro A6 c6 w6 hown6 hg6 _; rw [ho2.out] at hown6 ⊢; replace hown6 := Lib.hid hown6; replace hg6 := Lib.hid hg6)
          have hbl6 : Hid (Below w3.heap.size w3 w6) := ((below_drewN hbl5.out _).alloc hbl5.out.size _).grown hg6.out (by have := hbl5.out.size; simp; omega) (fun k hk => by cases hk; exact hbl5.out.size)
          go_roundw
          case rel => exact ⟨j, _, va, A6, c6, o2, by omega, rfl, by first | rfl | omega, rfl, ho2l, ho20, hoo2, hown6, hbl6⟩
          case measure => simp [intOf]; try omega
      · have hteq : (vb != sq) = true := by rw [bne_iff_ne]; exact hto
        have hoo2 : Hid ((foll (ow n j) sq (dn M j)).reverse ++ o = full) := by
          show _ = _
          rw [← hoo.out, hdn.out, foll_other (m := (va, vb, vc)) hto, hod.out]
        clear hto hoo hod hdn
        go_quiet (fail)
        go_wp2_with fail
        go_roundw
        case rel => exact ⟨j, _, sq, _, c2, o, by omega, rfl, by first | rfl | omega, rfl, by omega, hos, hoo2, hown5, below_drewN hbl5.out _⟩
        case measure => simp [intOf]; try omega
    · obtain rfl : m = 0 := by omega
      have hy0 : y = -1 := by omega
      subst hy0
      clear hy
      have hfin : Hid (o = full) := by
        have h := hoo.out
        rw [dn_zero] at h
        exact h
      obtain rfl : full = o := hfin.out.symm
      go_wp2_with fail
      go_ret
      exact ⟨A2, c2, rfl, ⟨hown.out, hbw.out, by omega⟩⟩
end Go.Proofs.Yteaclphankckiaa
