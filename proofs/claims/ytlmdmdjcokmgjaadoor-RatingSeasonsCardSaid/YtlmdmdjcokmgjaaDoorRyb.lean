/- Layer 45: the law RatingSeasons, one of three cases. Printed by gen_seas.py. -/
import Derived.Test.YtlmdmdjcokmgjaaDoorRx
import Derived.Test.YtlmdmdjcokmgjaaDoorRk
import Derived.Deep.QuietTactic
import Derived.Deep.CutBlock
namespace Go.Proofs.YtlmdmdjcokmgjaaDoor
open Go.RowKit
set_option linter.unusedSimpArgs false
set_option linter.unusedVariables false

set_option maxRecDepth 100000 in
set_option maxHeartbeats 20000000 in
theorem law_seas_full (R F : List Int) (E : List En) (AR AF AE : Option Addr) (cR cF cE : Nat) (many : Int) (w : World) (hl : LimsAt w) (hR : RecAt iEnc 1 w w.heap.size AR R) (hF : RecAt iEnc 1 w w.heap.size AF F) (hE : RecAt eEnc 3 w w.heap.size AE E)
    (hRl : R.length ≤ 10) (hFl : F.length ≤ 10) (hEl : E.length ≤ 30) (hgood : allB R F (ownE E many) = true) (hful : fulB R (ownE E many) R.length = true) : Calls Tryd.prog 7 #[.slice AR R.length cR, .slice AF F.length cF, .slice AE E.length cE, .int .i64 many] w fun e w' => e = .returned (.bool true) ∧ Below w.heap.size w w' := by
  have t1 : ((10 : Int) < (R.length : Int)) = False := by rw [eq_iff_iff, iff_false]; omega
  have t2 : ((10 : Int) < (F.length : Int)) = False := by rw [eq_iff_iff, iff_false]; omega
  have t3 : ((30 : Int) < (E.length : Int)) = False := by rw [eq_iff_iff, iff_false]; omega
  obtain ⟨OE, hOE⟩ : ∃ o, ownE E many = o := ⟨_, rfl⟩
  have hOl : OE.length ≤ 300 := by rw [← hOE]; exact ownE_len E many hEl
  rw [hOE] at hgood hful
  have hpos := Lib.hid hl.pos
  have hlH := Lib.hid hl
  have hRH := Lib.hid hR
  have hFH := Lib.hid hF
  have hEH := Lib.hid hE
  replace hgood := Lib.hid hgood
  replace hful := Lib.hid hful
  replace hOE := Lib.hid hOE
  clear hl hR hF hE
  go_enter Tryd.func7, Tryd.ntmps7
  go_upto_region 4 with (at_builtin; refine wpList_append_recs encRow eEnc_len eEnc_one rfl _ _ rfl w.heap.size none 0 [] rfl owns_nil AE cE E rfl hEH.out (by simp; omega) (Nat.le_refl _) ?_; intro A1 c1 w1 hown1 hg1 _; rw [List.nil_append] at hown1 ⊢; have hO1 : Hid (O1 eEnc 3 w.heap.size 43 w w1 A1 c1 E) := ⟨hown1, below_none hg1, hg1.size⟩; clear hg1 hown1)
  obtain ⟨B, hB⟩ : ∃ B, decide (195 ≤ many ∧ many ≤ 205 ∧ 0 < E.length) = B := ⟨_, rfl⟩
  replace hB := Lib.hid hB
  go_cut [48] from 38 to 48 (fun s48 wc => s48 = .bool B ∧ w1 = wc)
  case first =>
    by_cases hm : 195 ≤ many
    · by_cases hm2 : many ≤ 205
      · by_cases h0 : 0 < E.length
        · obtain rfl : B = true := by rw [← hB.out]; exact decide_eq_true ⟨hm, hm2, h0⟩
          have hEI : (0 : Int) < (E.length : Int) := by omega
          go_wp2_with fail
          go_meet
          exact ⟨rfl, rfl⟩
        · obtain rfl : B = false := by rw [← hB.out]; exact decide_eq_false (by omega)
          have hEI : ((0 : Int) < (E.length : Int)) = False := by rw [eq_iff_iff, iff_false]; omega
          go_wp2_with fail
          go_meet
          exact ⟨rfl, rfl⟩
      · obtain rfl : B = false := by rw [← hB.out]; exact decide_eq_false (by omega)
        go_wp2_with fail
        go_meet
        exact ⟨rfl, rfl⟩
    · obtain rfl : B = false := by rw [← hB.out]; exact decide_eq_false (by omega)
      go_wp2_with fail
      go_meet
      exact ⟨rfl, rfl⟩
  obtain ⟨rfl, rfl⟩ := hcut
  go_upto_if 48 with fail
  go_cut [9] from 49 to 59 (fun s9 wc => ∃ (A2 : Option Addr) (c2 : Nat), s9 = .slice A2 OE.length c2 ∧ Hid (O1 eEnc 3 w.heap.size 43 w wc A2 c2 OE))
  case first =>
    cases B with
    | false =>
      obtain rfl : OE = E := by rw [← hOE.out]; unfold ownE; rw [if_neg (of_decide_eq_false hB.out)]
      go_wp2_with fail
      go_meet
      exact ⟨A1, c1, rfl, hO1⟩
    | true =>
      obtain ⟨hm, hm2, h0⟩ := of_decide_eq_true hB.out
      obtain ⟨m, hmm⟩ : ∃ m : Nat, many.toNat = m := ⟨_, rfl⟩
      have hm3 : many = (m : Int) := by omega
      have hfin : Hid (extE E m = OE) := by
        show _ = _
        rw [← hOE.out]
        unfold ownE
        rw [if_pos ⟨hm, hm2, h0⟩, hmm]
      replace hm3 := Lib.hid hm3
      replace hmm := Lib.hid hmm
      obtain ⟨x, hx⟩ : ∃ x, E[0]? = some x := ⟨_, List.getElem?_eq_getElem h0⟩
      have hsu := Lib.hid (fun n => extE_succ E n hx)
      have hxl := Lib.hid (extE_length E)
      obtain ⟨xa, xb, p⟩ := x
      obtain ⟨bE, oE, rfl, hbE, e0, e1, e2⟩ := recs3 hEH.out hx
      replace hx := Lib.hid hx
      replace e0 : w.cell? ⟨bE, oE, none⟩ = some (.int .i64 xa) := by simpa using e0
      replace e1 : w.cell? ⟨bE, oE + 1, none⟩ = some (.int .i64 xb) := by simpa using e1
      replace e2 : w.cell? ⟨bE, oE + 2, none⟩ = some (.int .i64 p) := by simpa using e2
      replace e0 := Lib.hid e0
      replace e1 := Lib.hid e1
      replace e2 := Lib.hid e2
      have hO0 : Hid (O1 eEnc 3 w.heap.size 43 w w1 A1 c1 (extE E 0)) := by rw [extE_zero]; exact hO1
      have hz0 := Lib.hid (extE_zero E)
      go_wp2_with fail
      go_loopw [9, 10] (fun s9 i wr => ∃ (n : Nat) (A2 : Option Addr) (c2 : Nat) (L : List En), n ≤ m ∧ i = .int .i64 n ∧ s9 = .slice A2 L.length c2 ∧ L.length ≤ 30 + n ∧ Hid (extE E n = L) ∧ Hid (O1 eEnc 3 w.heap.size 43 w wr A2 c2 L)) (fun _ i _ => m - (intOf i).toNat)
      case atStart => exact ⟨0, A1, c1, E, Nat.zero_le _, rfl, rfl, by omega, hz0, hO1⟩
      case round =>
        obtain ⟨n, A2, c2, L, hn, rfl, rfl, hLl, hL, hO⟩ := hrel
        by_cases hnm : n < m
        · have d0 := (hO.out.below.cell (p := ⟨bE, oE, none⟩) hbE).trans e0.out
          have d1 := (hO.out.below.cell (p := ⟨bE, oE + 1, none⟩) hbE).trans e1.out
          have d2 := (hO.out.below.cell (p := ⟨bE, oE + 2, none⟩) hbE).trans e2.out
          have hnI : (n : Int) < many := by have := hm3.out; omega
          obtain ⟨L2, hL2⟩ : ∃ L2, L ++ [(xa, xb, p)] = L2 := ⟨_, rfl⟩
          have hL3 : Hid (extE E (n + 1) = L2) := by show _ = _; rw [← hsu.out n, hL.out, hL2]
          have hL2l : L2.length ≤ 30 + (n + 1) := by rw [← hL2, List.length_append, List.length_cons, List.length_nil]; omega
          replace hL2 := Lib.hid hL2
          go_wp2_with (at_builtin; refine wpList_append_recs encRow eEnc_len eEnc_one rfl _ _ rfl w.heap.size A2 c2 L rfl (hO.out.alloc _).own _ 1 [(xa, xb, p)] rfl (recs_e wr xa xb p _) (by simp only [List.length_cons, List.length_nil]; omega) (hO.out.alloc _).size ?_; intro A3 c3 w3 hown3 hg3 _; rw [hL2.out] at hown3 ⊢; have hO3 := Lib.hid ((hO.out.alloc _).app hown3 hg3); clear hown3 hg3)
          go_roundw
          case rel => exact ⟨n + 1, A3, c3, L2, by omega, by go_num, rfl, hL2l, hL3, hO3⟩
          case measure => simp [intOf]; omega
        · have hnI : ((n : Int) < many) = False := by rw [eq_iff_iff, iff_false]; have := hm3.out; omega
          obtain rfl : n = m := by omega
          obtain rfl : L = OE := by rw [← hL.out]; exact hfin.out
          go_wp2_with fail
          go_meet
          exact ⟨A2, c2, rfl, hO⟩
  case rest =>
    obtain ⟨A2, c2, rfl, hO2⟩ := hcut
    clear hO1 t3
    have hl2 := Lib.hid (hlH.out.below hpos.out hO2.out.below)
    have hR2 := Lib.hid ((hRH.out.below (Nat.le_refl _) hO2.out.below).more hO2.out.size)
    have hF2 := Lib.hid ((hFH.out.below (Nat.le_refl _) hO2.out.below).more hO2.out.size)
    have hE2 := Lib.hid (hO2.out.recs eEnc_len)
    have hb2 := Lib.hid hO2.out.below
    have hs2 := hO2.out.size
    clear hO2 hlH hRH hFH hEH
    generalize wc = w2 at *
    go_wp2_with fail
    refine (pseason R F OE _ _ _ _ _ _ _ hl2.out hR2.out hF2.out hE2.out hRl hFl hOl).mono ?_
    rintro e w5 h5
    rcases h5 with ⟨h, _⟩ | ⟨_, _, rfl, hb5⟩ | ⟨_, h, _⟩
    · rw [hgood.out] at h; cases h
    rotate_left
    · rw [hful.out] at h; cases h
    have hb5w := Lib.hid (hb2.out.trans (hb5.mono hs2))
    have hl5 := Lib.hid (hl2.out.below hl2.out.pos hb5)
    have hR5 := Lib.hid ((hR2.out.below (Nat.le_refl _) hb5).more hb5.size)
    have hF5 := Lib.hid ((hF2.out.below (Nat.le_refl _) hb5).more hb5.size)
    have hE5 := Lib.hid ((hE2.out.below (Nat.le_refl _) hb5).more hb5.size)
    have hs5 : w.heap.size ≤ w5.heap.size := by have := hb5.size; omega
    clear hb5 hb2 hl2 hR2 hF2 hE2 hs2
    obtain ⟨n, hn⟩ : ∃ n, R.length = n := ⟨_, rfl⟩
    obtain ⟨D, hD⟩ : ∃ D, decide (R.length = F.length) = D := ⟨_, rfl⟩
    obtain ⟨Z, hZ⟩ : ∃ Z, (D && rfB R F R.length) = Z := ⟨_, rfl⟩
    have hD2 : ((n : Int) != (F.length : Int)) = !D := by
      rw [← hD, hn]
      by_cases h : n = F.length
      · rw [decide_eq_true h, h]; simp
      · rw [decide_eq_false h, Bool.not_false, bne_iff_ne]; omega
    have hnH := Lib.hid hn
    have hDH := Lib.hid hD
    have hZH := Lib.hid hZ
    rw [hn] at hRl ⊢
    clear hn hZ hD t1 t2
    obtain ⟨D', hDD⟩ : ∃ D', (!D) = D' := ⟨_, rfl⟩
    rw [hDD] at hD2
    replace hDD := Lib.hid hDD
    go_upto_if 71 with fail
    go_cut [13] from 72 to 72 (fun s13 wc => s13 = .int .i64 (noV D) ∧ w5 = wc)
    case first =>
      cases D with
      | true =>
        obtain rfl : D' = false := hDD.out.symm
        go_wp2_with fail
        go_meet
        exact ⟨rfl, rfl⟩
      | false =>
        obtain rfl : D' = true := hDD.out.symm
        go_wp2_with fail
        go_meet
        exact ⟨rfl, rfl⟩
    obtain ⟨rfl, rfl⟩ := hcut
    clear hD2 hDD
    go_upto_block 2 with fail
    go_cut [13] from 72 to 101 (fun s13 wc => ∃ z : Int, s13 = .int .i64 z ∧ Hid (z = noV Z) ∧ w5 = wc)
    case first =>
      have hst : (Hid (R.length = F.length ∧ rfB R F 0 = true) ∧ noV D = 0) ∨ (Hid (Z = false) ∧ noV D = 2) := by
        cases hd : D with
        | true => exact .inl ⟨⟨of_decide_eq_true (hDH.out.trans hd), rfl⟩, rfl⟩
        | false => exact .inr ⟨by show _ = _; rw [← hZH.out, hd]; rfl, rfl⟩
      go_wp2_with fail
      go_loop [13, 14] (fun s13 i => ∃ (k : Nat) (z : Int), k ≤ n ∧ i = .int .i64 k ∧ s13 = .int .i64 z ∧ ((Hid (R.length = F.length ∧ rfB R F k = true) ∧ z = 0) ∨ (Hid (Z = false) ∧ z = 2))) (fun _ i => n - (intOf i).toNat)
      case atStart => exact ⟨0, noV D, Nat.zero_le _, rfl, rfl, hst⟩
      case round =>
        obtain ⟨k, z, hk, rfl, rfl, ⟨hrf, rfl⟩ | ⟨hzf, rfl⟩⟩ := hrel
        · by_cases hkn : k < n
          · obtain ⟨bR, oR, rfl, hbR, hcR⟩ := recs1 hR5.out (by have := hnH.out; omega)
            obtain ⟨bF, oF, rfl, hbF, hcF⟩ := recs1 hF5.out (by have := hnH.out; have := hrf.out.1; omega)
            have m0 := hcR k (by have := hnH.out; omega)
            have m1 := hcF k (by have := hnH.out; have := hrf.out.1; omega)
            have hki : (k : Int) < (n : Int) := by omega
            have hkF : (k : Int) < (F.length : Int) := by have := hnH.out; have := hrf.out.1; omega
            have hsu := Lib.hid (rfB_succ R F k)
            clear hcR hcF
            cases hok : okRF (atI R k) (atI F k) with
            | true =>
              obtain ⟨r0, r1, f0, f1⟩ := okRF_out hok
              have i1 := inB_yes r0 r1
              have hnx : Hid (R.length = F.length ∧ rfB R F (k + 1) = true) := ⟨hrf.out.1, by rw [hsu.out, hrf.out.2, hok]; rfl⟩
              clear hok
              generalize atI R k = r at *
              generalize atI F k = f at *
              have i2 : (f < 1) = False := by rw [eq_iff_iff, iff_false]; omega
              have i3 : ((60 : Int) < f) = False := by rw [eq_iff_iff, iff_false]; omega
              go_wp2_with (go_at_call 9; refine (rrat _ _).mono ?_; rintro e w' ⟨rfl, rfl⟩)
              go_round
              case rel => exact ⟨k + 1, 0, by omega, by go_num, rfl, .inl ⟨hnx, rfl⟩⟩
              case measure => simp [intOf]; omega
            | false =>
              have hzf : Hid (Z = false) := by show _ = _; rw [← hZH.out, rfB_no (i := k) (by have := hnH.out; omega) hok, Bool.and_false]
              have hor : inB (atI R k) 0 4000 = false ∨ inB (atI R k) 0 4000 = true ∧ atI F k < 1 ∨ inB (atI R k) 0 4000 = true ∧ 1 ≤ atI F k ∧ 60 < atI F k := by
                cases h1 : inB (atI R k) 0 4000 with
                | false => exact .inl rfl
                | true =>
                  have a1 := of_decide_eq_true h1
                  have hno : ¬ (0 ≤ atI R k ∧ atI R k ≤ 4000 ∧ 1 ≤ atI F k ∧ atI F k ≤ 60) := of_decide_eq_false hok
                  have := a1.1
                  have := a1.2
                  right
                  by_cases h3 : atI F k < 1
                  · exact .inl ⟨rfl, h3⟩
                  · exact .inr ⟨rfl, by omega, by omega⟩
              clear hok
              generalize atI R k = r at *
              generalize atI F k = f at *
              rcases hor with i1 | ⟨i1, i2⟩ | ⟨i1, i2, i3⟩
              all_goals
                go_wp2_with (go_at_call 9; refine (rrat _ _).mono ?_; rintro e w' ⟨rfl, rfl⟩)
                go_round
                case rel => exact ⟨k + 1, 2, by omega, by go_num, rfl, .inr ⟨hzf, rfl⟩⟩
                case measure => simp [intOf]; omega
          · obtain rfl : k = n := by omega
            have hzt : Hid ((0 : Int) = noV Z) := by show _ = _; rw [← hZH.out, ← hDH.out, decide_eq_true hrf.out.1, hnH.out, hrf.out.2]; rfl
            go_wp2_with fail
            go_meet
            exact ⟨0, rfl, hzt, rfl⟩
        · have hzt : Hid ((2 : Int) = noV Z) := by show _ = _; rw [hzf.out]; rfl
          by_cases hkn : k < n
          · have hki : (k : Int) < (n : Int) := by omega
            go_wp2_with fail
            go_meet
            exact ⟨2, rfl, hzt, rfl⟩
          · have hki : ((k : Int) < (n : Int)) = False := by rw [eq_iff_iff, iff_false]; omega
            go_wp2_with fail
            go_meet
            exact ⟨2, rfl, hzt, rfl⟩
    case rest =>
      obtain ⟨z, rfl, hz, rfl⟩ := hcut
      go_upto_block 4 with fail
      go_cut [13] from 102 to 150 (fun s13 wc => ∃ z : Int, s13 = .int .i64 z ∧ Hid (z = noV (allB R F OE)) ∧ Hid (Below w5.heap.size w5 wc))
      case first =>
        have hzt : Hid (z = noV (Z && (OE.take 0).all (okX n))) := by show _ = _; rw [List.take_zero]; simpa using hz.out
        go_wp2_with fail
        go_loopw [13, 15] (fun s13 i wr => ∃ (k : Nat) (z : Int), k ≤ OE.length ∧ i = .int .i64 k ∧ s13 = .int .i64 z ∧ Hid (z = noV (Z && (OE.take k).all (okX n))) ∧ Hid (Below w5.heap.size w5 wr)) (fun _ i _ => OE.length - (intOf i).toNat)
        case atStart => exact ⟨0, z, Nat.zero_le _, rfl, rfl, hzt, Below.refl _ _⟩
        case round =>
          clear hz hzt
          obtain ⟨k, z, hk, rfl, rfl, hz, hb⟩ := hrel
          by_cases hkn : k < OE.length
          · obtain ⟨x, hx⟩ : ∃ x, OE[k]? = some x := ⟨_, List.getElem?_eq_getElem hkn⟩
            have hz2 : Hid (noV (Z && (OE.take (k + 1)).all (okX n)) = if okX n x = true then z else 2) := by
              show _ = _
              have h1 : (some x).toList.all (okX n) = okX n x := by simp
              rw [List.take_add_one, hx, List.all_append, h1, ← Bool.and_assoc, noV_and, hz.out]
            obtain ⟨xa, xb, p⟩ := x
            obtain ⟨bE, oE, rfl, hbE, e0, e1, e2⟩ := recs3 hE5.out hx
            have m0 := (hb.out.cell (p := ⟨bE, oE + k * 3, none⟩) hbE).trans e0
            have m1 := (hb.out.cell (p := ⟨bE, oE + k * 3 + 1, none⟩) hbE).trans e1
            have m2 := (hb.out.cell (p := ⟨bE, oE + k * 3 + 2, none⟩) hbE).trans e2
            have hki : (k : Int) < (OE.length : Int) := by omega
            have hT := Lib.hid (tri_new wr wr.heap.size (.int .i64 xa) (.int .i64 xb) (.int .i64 p) 43 rfl)
            have hbT := Lib.hid (hb.out.alloc hb.out.size (.cells #[.int .i64 xa, .int .i64 xb, .int .i64 p] 43))
            replace hx := Lib.hid hx
            clear e0 e1 e2
            go_upto_region 22 with fail
            clear m0 m1 m2
            generalize wr.heap.size = BT at *
            generalize wr.alloc (.cells #[.int .i64 xa, .int .i64 xb, .int .i64 p] 43) = w9 at *
            have c0 := hT.out.c0
            have c1 := hT.out.c1
            have c2 := hT.out.c2
            cases hok : okX n (xa, xb, p) with
            | true =>
              obtain ⟨a0, a1, b0, b1, hne, p0, p1⟩ := okX_out hok
              have i1 : (xa < 0) = False := by rw [eq_iff_iff, iff_false]; exact Int.not_lt.2 a0
              have i2 : ((n : Int) ≤ xa) = False := by rw [eq_iff_iff, iff_false]; exact Int.not_le.2 a1
              have i3 : (xb < 0) = False := by rw [eq_iff_iff, iff_false]; exact Int.not_lt.2 b0
              have i4 : ((n : Int) ≤ xb) = False := by rw [eq_iff_iff, iff_false]; exact Int.not_le.2 b1
              have i5 : (xa == xb) = false := by rw [beq_eq_false_iff_ne]; exact hne
              have i6 : (p < 0) = False := by rw [eq_iff_iff, iff_false]; exact Int.not_lt.2 p0
              have i7 : ((2 : Int) < p) = False := by rw [eq_iff_iff, iff_false]; exact Int.not_lt.2 p1
              have hz3 : Hid (z = noV (Z && (OE.take (k + 1)).all (okX n))) := by show _ = _; rw [hz2.out, if_pos hok]
              clear a0 a1 b0 b1 hne p0 p1 hok hz hz2
              go_wp2_with fail
              go_roundw
              case rel => exact ⟨k + 1, z, by omega, by go_num, rfl, hz3, hbT⟩
              case measure => simp [intOf]; omega
            | false =>
              have hz3 : Hid (2 = noV (Z && (OE.take (k + 1)).all (okX n))) := by show _ = _; rw [hz2.out, if_neg (by rw [hok]; exact Bool.false_ne_true)]
              have hor : xa < 0 ∨ 0 ≤ xa ∧ (n : Int) ≤ xa ∨ 0 ≤ xa ∧ xa < n ∧ xb < 0 ∨ 0 ≤ xa ∧ xa < n ∧ 0 ≤ xb ∧ (n : Int) ≤ xb ∨ 0 ≤ xa ∧ xa < n ∧ 0 ≤ xb ∧ xb < n ∧ xa = xb ∨ 0 ≤ xa ∧ xa < n ∧ 0 ≤ xb ∧ xb < n ∧ xa ≠ xb ∧ p < 0 ∨ 0 ≤ xa ∧ xa < n ∧ 0 ≤ xb ∧ xb < n ∧ xa ≠ xb ∧ 0 ≤ p ∧ 2 < p := by
                have hno : ¬ (0 ≤ xa ∧ xa < n ∧ 0 ≤ xb ∧ xb < n ∧ xa ≠ xb ∧ 0 ≤ p ∧ p ≤ 2) := of_decide_eq_false hok
                omega
              clear hok hz hz2
              rcases hor with i1 | ⟨a0, i2⟩ | ⟨a0, a1, i3⟩ | ⟨a0, a1, b0, i4⟩ | ⟨a0, a1, b0, b1, i5⟩ | ⟨a0, a1, b0, b1, hne, i6⟩ | ⟨a0, a1, b0, b1, hne, p0, i7⟩
              case inr.inr.inr.inr.inl => 
                subst i5
                go_wp2_with fail
                go_roundw
                case rel => exact ⟨k + 1, 2, by omega, by go_num, rfl, hz3, hbT⟩
                case measure => simp [intOf]; omega
              case inr.inr.inr.inr.inr.inl =>
                have i5 : (xa == xb) = false := by rw [beq_eq_false_iff_ne]; exact hne
                clear hne
                go_wp2_with fail
                go_roundw
                case rel => exact ⟨k + 1, 2, by omega, by go_num, rfl, hz3, hbT⟩
                case measure => simp [intOf]; omega
              case inr.inr.inr.inr.inr.inr =>
                have i5 : (xa == xb) = false := by rw [beq_eq_false_iff_ne]; exact hne
                clear hne
                go_wp2_with fail
                go_roundw
                case rel => exact ⟨k + 1, 2, by omega, by go_num, rfl, hz3, hbT⟩
                case measure => simp [intOf]; omega
              all_goals
                go_wp2_with fail
                go_roundw
                case rel => exact ⟨k + 1, 2, by omega, by go_num, rfl, hz3, hbT⟩
                case measure => simp [intOf]; omega
          · obtain rfl : k = OE.length := by omega
            have hz3 : Hid (z = noV (allB R F OE)) := by
              have h := hz.out
              rw [List.take_length] at h
              show _ = _
              rw [h, allB_parts, hDH.out, hZH.out, hnH.out]
            go_wp2_with fail
            go_meet
            exact ⟨z, rfl, hz3, hb⟩
      case rest =>
        obtain ⟨z6, rfl, hz6, hb6⟩ := hcut
        clear hz hZH
        generalize wc = w6 at *
        have hb6w := Lib.hid (hb5w.out.trans (hb6.out.mono hs5))
        have hl6 := Lib.hid (hl5.out.below hl5.out.pos hb6.out)
        have hR6 := Lib.hid ((hR5.out.below (Nat.le_refl _) hb6.out).more hb6.out.size)
        have hF6 := Lib.hid ((hF5.out.below (Nat.le_refl _) hb6.out).more hb6.out.size)
        have hE6 := Lib.hid ((hE5.out.below (Nat.le_refl _) hb6.out).more hb6.out.size)
        have hs6 : w.heap.size ≤ w6.heap.size := by have := hb6.out.size; omega
        clear hb5w hl5 hR5 hF5 hE5 hs5
        obtain rfl : z6 = 0 := by rw [hz6.out, hgood.out]; rfl
        clear hz6
        go_wp2_with fail
        go_loopw [17, 18] (fun s17 i wr => ∃ (q : Nat) (A7 : Option Addr) (c7 : Nat) (wt : List Int), q ≤ n ∧ i = .int .i64 q ∧ s17 = .slice A7 wt.length c7 ∧ wt.length ≤ q ∧ Hid (outL R F OE q = wt) ∧ Hid (fulB R OE q = false) ∧ Hid (O1 iEnc 1 w6.heap.size 3 w6 wr A7 c7 wt)) (fun _ i _ => n - (intOf i).toNat)
        case atStart => exact ⟨0, none, 0, [], Nat.zero_le _, rfl, rfl, Nat.le_refl _, rfl, rfl, O1.nil (Below.refl _ _) (Nat.le_refl _)⟩
        case round =>
          obtain ⟨q, A7, c7, wt, hq, rfl, rfl, hwl, hwt, hfu, hO7⟩ := hrel
          by_cases hqn : q < n
          · have hqI : (q : Int) < (n : Int) := by omega
            have hbr := Lib.hid hO7.out.below
            have hsr := hO7.out.size
            generalize wr = wQ at *
            go_wp2_with fail
            go_loopw [19, 20] (fun s19 j wi => ∃ (k : Nat) (A8 : Option Addr) (c8 : Nat) (gl : List (Int × Int)), k ≤ OE.length ∧ j = .int .i64 k ∧ s19 = .slice A8 gl.length c8 ∧ gl.length ≤ 2 * k ∧ Hid (gms R (OE.take k) q = gl) ∧ Hid (O1 gEnc 2 wQ.heap.size 31 wQ wi A8 c8 gl)) (fun _ j _ => OE.length - (intOf j).toNat)
            case atStart => exact ⟨0, none, 0, [], Nat.zero_le _, rfl, rfl, Nat.le_refl _, rfl, O1.nil (Below.refl _ _) (Nat.le_refl _)⟩
            case round =>
              obtain ⟨k, A8, c8, gl, hk, rfl, rfl, hgl, hgm, hO8⟩ := hrel
              have hbi := Lib.hid (hbr.out.trans (hO8.out.below.mono hsr))
              by_cases hkn : k < OE.length
              · obtain ⟨x, hx⟩ : ∃ x, OE[k]? = some x := ⟨_, List.getElem?_eq_getElem hkn⟩
                have hgs := Lib.hid (gms_succ (R := R) hx q)
                have hok : okX n x = true := by
                  have h := (allB_out hgood.out).2.2
                  rw [hnH.out] at h
                  exact List.all_eq_true.1 h x (List.mem_of_getElem? hx)
                obtain ⟨xa, xb, p⟩ := x
                obtain ⟨bE, oE, rfl, hbE, e0, e1, e2⟩ := recs3 hE6.out hx
                have m0 := (hbi.out.cell (p := ⟨bE, oE + k * 3, none⟩) hbE).trans e0
                have m1 := (hbi.out.cell (p := ⟨bE, oE + k * 3 + 1, none⟩) hbE).trans e1
                have m2 := (hbi.out.cell (p := ⟨bE, oE + k * 3 + 2, none⟩) hbE).trans e2
                have hki : (k : Int) < (OE.length : Int) := by omega
                replace hx := Lib.hid hx
                clear e0 e1 e2
                obtain ⟨a0, a1, b0, b1, hne, p0, p1⟩ := okX_out hok
                clear hok
                obtain ⟨ia, rfl⟩ : ∃ ia : Nat, xa = (ia : Int) := Int.eq_ofNat_of_zero_le a0
                obtain ⟨ib, rfl⟩ : ∃ ib : Nat, xb = (ib : Int) := Int.eq_ofNat_of_zero_le b0
                have hne2 : ia ≠ ib := fun e => hne (by show (ia : Int) = (ib : Int); rw [e])
                have hia : ia < n := Int.ofNat_lt.1 a1
                have hib : ib < n := Int.ofNat_lt.1 b1
                have hiaI : (ia : Int) < (n : Int) := by omega
                have hibI : (ib : Int) < (n : Int) := by omega
                have p0' : 0 ≤ p := p0
                have p1' : p ≤ 2 := p1
                have hw2 : IntKind.i64.wrap (2 - p) = 2 - p := IntWalk.i64_in _ (by omega)
                obtain ⟨bR, oR, rfl, hbR, hcR⟩ := recs1 hR6.out (by have := hnH.out; omega)
                have q1 := (hbi.out.cell (p := ⟨bR, oR + ib, none⟩) hbR).trans (hcR ib (by have := hnH.out; omega))
                have q2 := (hbi.out.cell (p := ⟨bR, oR + ia, none⟩) hbR).trans (hcR ia (by have := hnH.out; omega))
                clear a0 a1 b0 b1 hne p0 p1 hcR
                obtain ⟨rb, hrb⟩ : ∃ rb, atI R (ib : Int) = rb := ⟨_, rfl⟩
                obtain ⟨ra, hra⟩ : ∃ ra, atI R (ia : Int) = ra := ⟨_, rfl⟩
                rw [hrb] at q1
                rw [hra] at q2
                have hbE8 : bE < wr.heap.size := by have := hbi.out.size; omega
                have hbR8 : bR < wr.heap.size := by have := hbi.out.size; omega
                have hn1 : Hid (∀ b, b < w6.heap.size → (Value.slice A8 gl.length c8).ownBlock ≠ some b) := fun b hb e => by
                  have h1 := (World.ownsRow.lt hO8.out.own b e).1
                  omega
                have hOd := Lib.hid hO8.out.drew
                have hnew : ∀ g : Int × Int, gm R q ((ia : Int), (ib : Int), p) = [g] → ∃ G2, Hid (gl ++ [g] = G2) ∧ Hid (gms R (OE.take (k + 1)) q = G2) ∧ G2.length ≤ 2 * (k + 1) := fun g hg =>
                  ⟨_, rfl, (by show _ = _; rw [hgs.out, hgm.out, hg]), (by rw [List.length_append, List.length_cons, List.length_nil]; omega)⟩
                by_cases hqa : ia = q
                · obtain ⟨G2, hG2, hnx, hG2l⟩ := hnew (rb, p) (by rw [gm_a (by show (ia : Int) = _; rw [hqa]) (fun e => hne2 (by rw [hqa]; exact (Int.ofNat_inj.1 e).symm)), hrb])
                  have hqI1 : ((ia : Int) == (q : Int)) = true := by rw [hqa]; exact beq_self_eq_true _
                  have hqI2 : ((ib : Int) == (q : Int)) = false := by rw [beq_eq_false_iff_ne]; omega
                  replace hqa := Lib.hid hqa
                  replace hrb := Lib.hid hrb
                  replace hra := Lib.hid hra
                  clear hnew hw2
                  go_upto_region 35 with fail
                  go_region_held3 (fun W => W.cell? ⟨bE, oE + k * 3 + 1, none⟩ = some (.int .i64 (ib : Int)) ∧ W.cell? ⟨bE, oE + k * 3 + 2, none⟩ = some (.int .i64 p) ∧ W.cell? ⟨bR, oR + ib, none⟩ = some (.int .i64 rb))
                    (first
                      | exact s_three (Keep3.refl _ _ _ _) m1 m2 q1
                      | exact s_three ((Keep3.refl bE bR bR wr.drew).alloc hbE8 hbR8 hbR8 _) m1 m2 q1
                      | exact s_three hK6.out m1 m2 q1
                      | go_keep)
                    ((refine step_append_recs ratedRow gEnc_len gEnc_one (by rfl) _ _ (by rfl) wQ.heap.size A8 c8 gl (by rfl) (hOd.out.alloc _).own _ 1 [(rb, p)] (by rfl) (recs_g _ _ _ _ rfl) (by simp only [List.length_cons, List.length_nil]; omega) (hOd.out.alloc _).size ?_; intro A6 c6 w6' hown6 hg6 hat6; rw [hG2.out] at hown6 ⊢; have hK6 := Lib.hid (Keep3.grown ((Keep3.refl bE bR bR wr.drew).alloc hbE8 hbR8 hbR8 _) (by simp; omega) (by simp; omega) (by simp; omega) hg6 (hn1.out _ (by omega)) (hn1.out _ (by omega)) (hn1.out _ (by omega))); have hO6 := Lib.hid ((hOd.out.alloc _).app hown6 hg6); clear hown6 hg6 hat6))
                  all_goals
                    replace m0 := (World.cell?_of_block (hK6.out bE (.inl rfl))).trans m0
                    replace m1 := (World.cell?_of_block (hK6.out bE (.inl rfl))).trans m1
                    replace m2 := (World.cell?_of_block (hK6.out bE (.inl rfl))).trans m2
                    clear hK6 q1 q2 hOd
                    go_wp2_with fail
                    go_roundw
                    case rel => exact ⟨k + 1, A6, c6, G2, by omega, by go_num, rfl, hG2l, hnx, hO6⟩
                    case measure => simp [intOf]; omega
                · by_cases hqb : ib = q
                  · obtain ⟨G2, hG2, hnx, hG2l⟩ := hnew (ra, 2 - p) (by rw [gm_b (fun e => hqa (Int.ofNat_inj.1 e)) (by show (ib : Int) = _; rw [hqb]), hra])
                    have hqI1 : ((ia : Int) == (q : Int)) = false := by rw [beq_eq_false_iff_ne]; omega
                    have hqI2 : ((ib : Int) == (q : Int)) = true := by rw [hqb]; exact beq_self_eq_true _
                    replace hqb := Lib.hid hqb
                    replace hqa := Lib.hid hqa
                    replace hrb := Lib.hid hrb
                    replace hra := Lib.hid hra
                    clear hnew
                    go_upto_region 37 with fail
                    go_region_held3 (fun W => W.cell? ⟨bE, oE + k * 3, none⟩ = some (.int .i64 (ia : Int)) ∧ W.cell? ⟨bE, oE + k * 3 + 2, none⟩ = some (.int .i64 p) ∧ W.cell? ⟨bR, oR + ia, none⟩ = some (.int .i64 ra))
                      (first
                        | exact s_three (Keep3.refl _ _ _ _) m0 m2 q2
                        | exact s_three ((Keep3.refl bE bR bR wr.drew).alloc hbE8 hbR8 hbR8 _) m0 m2 q2
                        | exact s_three hK6.out m0 m2 q2
                        | go_keep)
                      ((refine step_append_recs ratedRow gEnc_len gEnc_one (by rfl) _ _ (by rfl) wQ.heap.size A8 c8 gl (by rfl) (hOd.out.alloc _).own _ 1 [(ra, 2 - p)] (by rfl) (recs_g _ _ _ _ rfl) (by simp only [List.length_cons, List.length_nil]; omega) (hOd.out.alloc _).size ?_; intro A6 c6 w6' hown6 hg6 hat6; rw [hG2.out] at hown6 ⊢; have hK6 := Lib.hid (Keep3.grown ((Keep3.refl bE bR bR wr.drew).alloc hbE8 hbR8 hbR8 _) (by simp; omega) (by simp; omega) (by simp; omega) hg6 (hn1.out _ (by omega)) (hn1.out _ (by omega)) (hn1.out _ (by omega))); have hO6 := Lib.hid ((hOd.out.alloc _).app hown6 hg6); clear hown6 hg6 hat6))
                    all_goals
                      clear hK6 q1 q2 hOd
                      go_wp2_with fail
                      go_roundw
                      case rel => exact ⟨k + 1, A6, c6, G2, by omega, by go_num, rfl, hG2l, hnx, hO6⟩
                      case measure => simp [intOf]; omega
                  · have hnx : Hid (gms R (OE.take (k + 1)) q = gl) := by show _ = _; rw [hgs.out, gm_0 (fun e => hqa (Int.ofNat_inj.1 e)) (fun e => hqb (Int.ofNat_inj.1 e)), List.append_nil]; exact hgm.out
                    have hqI1 : ((ia : Int) == (q : Int)) = false := by rw [beq_eq_false_iff_ne]; omega
                    have hqI2 : ((ib : Int) == (q : Int)) = false := by rw [beq_eq_false_iff_ne]; omega
                    replace hqb := Lib.hid hqb
                    replace hqa := Lib.hid hqa
                    replace hrb := Lib.hid hrb
                    replace hra := Lib.hid hra
                    clear hnew hw2
                    go_wp2_with fail
                    go_roundw
                    case rel => exact ⟨k + 1, A8, c8, gl, by omega, by go_num, rfl, by omega, hnx, hO8⟩
                    case measure => simp [intOf]; omega
              · obtain rfl : k = OE.length := by omega
                have hgq : Hid (gms R OE q = gl) := by have h := hgm.out; rw [List.take_length] at h; exact h
                have hO7i := Lib.hid (hO7.out.next hO8.out.below)
                by_cases hbig : 200 < gl.length
                · have hbI : (200 : Int) < (gl.length : Int) := by omega
                  have hsi : w6.heap.size ≤ wr.heap.size := hbi.out.size
                  have hli := Lib.hid (hl6.out.below hl6.out.pos hbi.out)
                  have hbw := Lib.hid (hb6w.out.trans (hbi.out.mono hs6))
                  go_wp2_with (go_at_call 10; refine (pknown _ hli.out).mono ?_; rintro e w8 ⟨rfl, hb8⟩)
                  go_ret
                  exact ⟨rfl, hbw.out.trans (hb8.mono (by omega))⟩
                · have hbI : ((200 : Int) < (gl.length : Int)) = False := by rw [eq_iff_iff, iff_false]; omega
                  have hv : Hid (vldG gl = true) := by show _ = _; rw [← hgq.out]; exact gms_vld hgood.out q (by rw [hgq.out]; omega)
                  have hfn2 : Hid (fulB R OE (q + 1) = false) := by
                    have h1 := hfu.out
                    show _ = _
                    unfold fulB at h1 ⊢
                    rw [List.range_succ, List.any_append, h1]
                    simp only [List.any_cons, List.any_nil, Bool.or_false, Bool.false_or, decide_eq_false_iff_not]
                    rw [hgq.out]
                    omega
                  have hgG := Lib.hid (games_own hO8.out.own)
                  have hrf : Hid (rfB R F n = true) := by have h := (allB_out hgood.out).2.1; rw [hnH.out] at h; exact h
                  have hlen : Hid (R.length = F.length) := (allB_out hgood.out).1
                  obtain ⟨r0, r1, f0, f1⟩ := okRF_out (rfB_out hrf.out hqn)
                  obtain ⟨bR, oR, rfl, hbR, hcR⟩ := recs1 hR6.out (by have := hnH.out; omega)
                  obtain ⟨bF, oF, rfl, hbF, hcF⟩ := recs1 hF6.out (by have := hnH.out; have := hlen.out; omega)
                  have m0 := (hbi.out.cell (p := ⟨bR, oR + q, none⟩) hbR).trans (hcR q (by have := hnH.out; omega))
                  have m1 := (hbi.out.cell (p := ⟨bF, oF + q, none⟩) hbF).trans (hcF q (by have := hnH.out; have := hlen.out; omega))
                  have hqF : (q : Int) < (F.length : Int) := by have := hnH.out; have := hlen.out; omega
                  have hsu := Lib.hid (outL_succ R F OE q)
                  rw [hgq.out] at hsu
                  clear hcR hcF
                  generalize atI R q = r at *
                  generalize atI F q = f at *
                  obtain ⟨wt2, hw2t⟩ : ∃ l, wt ++ [nextV r f gl] = l := ⟨_, rfl⟩
                  have hnx : Hid (outL R F OE (q + 1) = wt2) := by show _ = _; rw [hsu.out, hwt.out, hw2t]
                  have hw2l : wt2.length ≤ q + 1 := by rw [← hw2t, List.length_append, List.length_cons, List.length_nil]; omega
                  replace hw2t := Lib.hid hw2t
                  have hOd := Lib.hid hO7i.out.drew
                  have hbF1 : bF < wr.heap.size := by have := hbi.out.size; omega
                  have hbR1 : bR < wr.heap.size := by have := hbi.out.size; omega
                  have hn1 : Hid (∀ b, b < w6.heap.size → (Value.slice A7 wt.length c7).ownBlock ≠ some b) := fun b hb e => by
                    have h1 := (World.ownsRow.lt hO7.out.own b e).1
                    omega
                  clear hbig hgm hgq hO8
                  go_upto_region 40 with fail
                  go_region_held3 (fun W => W.cell? ⟨bR, oR + q, none⟩ = some (.int .i64 r) ∧ W.cell? ⟨bF, oF + q, none⟩ = some (.int .i64 f))
                    (first
                      | exact s_two (Keep3.refl _ _ _ _) m0 m1
                      | exact s_two hK5.out m0 m1
                      | exact s_two (hK5.out.alloc hR5' hF5' hF5' _) m0 m1
                      | exact s_two hK6.out m0 m1
                      | go_keep)
                    (first
                      | (go_at_call 16; refine (rnext _ _ _ gl _ (World.drew wr) hgG.out r0 r1 f0 f1 hv.out).mono ?_; rintro e w5' ⟨rfl, hb5'⟩; have hF5' : bF < w5'.heap.size := Nat.lt_of_lt_of_le hbF1 hb5'.size; have hR5' : bR < w5'.heap.size := Nat.lt_of_lt_of_le hbR1 hb5'.size; have hK5 := Lib.hid (Keep3.below (Keep3.refl bR bF bF wr.drew) hbR1 hbF1 hbF1 hb5'); have hO5 := Lib.hid (hOd.out.next hb5'); clear hb5')
                      | (refine step_append_recs intRow iEnc_len iEnc_one (by rfl) _ _ (by rfl) w6.heap.size A7 c7 wt (by rfl) (hO5.out.alloc _).own _ 1 [nextV r f gl] (by rfl) (by first | exact recs_i _ _ _ rfl | exact recs_gi (recs_i _ _ _ rfl)) (by simp only [List.length_cons, List.length_nil]; omega) (hO5.out.alloc _).size ?_; intro A6 c6 w6' hown6 hg6 hat6; rw [hw2t.out] at hown6 ⊢; have hK6 := Lib.hid (Keep3.grown (hK5.out.alloc hR5' hF5' hF5' _) (by simp; omega) (by simp; omega) (by simp; omega) hg6 (hn1.out _ (by omega)) (hn1.out _ (by omega)) (hn1.out _ (by omega))); have hO6 := Lib.hid ((hO5.out.alloc _).app hown6 hg6); clear hown6 hg6 hat6))
                  all_goals
                    clear hK5 hK6 hO5 hOd m0 m1
                    go_wp2_with fail
                    go_roundw
                    case rel => exact ⟨q + 1, A6, c6, wt2, by omega, by go_num, rfl, hw2l, hnx, hfn2, hO6⟩
                    case measure => simp [intOf]; omega
          · obtain rfl : q = n := by omega
            have h1 := hfu.out
            have h2 := hful.out
            rw [hnH.out] at h2
            rw [h2] at h1
            cases h1
end Go.Proofs.YtlmdmdjcokmgjaaDoor
