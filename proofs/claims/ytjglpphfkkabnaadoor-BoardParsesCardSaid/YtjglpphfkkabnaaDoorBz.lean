/- Layer 3: the board with a text: the reference's. Printed by gen_bz.py. -/
import Derived.Test.YtjglpphfkkabnaaDoorBy
namespace Go.Proofs.YtjglpphfkkabnaaDoor
open Go.RowKit
set_option linter.unusedSimpArgs false
set_option linter.unusedVariables false

theorem rev_get {ws : List ByteArray} {k : Nat} (hk : k < ws.length) : ws.reverse[k]? = ws[ws.length - 1 - k]? := by rw [List.getElem?_reverse hk]
set_option maxRecDepth 100000 in
set_option maxHeartbeats 60000000 in
theorem rparseb (s : ByteArray) (w : World) (hs : s.size ≤ 1000) : Calls Tryd.prog 31 #[.string s] w (RP s w) := by
  obtain ⟨ws9, hws9⟩ : ∃ ws, (ranksB s).reverse = ws := ⟨_, rfl⟩
  have hT := Lib.hid (tri_new w w.heap.size (.int .i64 0) (.int .i64 0) (.slice none 0 0) 26 rfl)
  have hbb : Hid (Below w.heap.size w (w.alloc (.cells #[.int .i64 0, .int .i64 0, .slice none 0 0] 26))) := (Below.refl _ _).alloc (Nat.le_refl _) _
  have hfin : Hid (wlS s s.size = ws9) := by show _ = _; rw [ranks_same, hws9]
  have hrw : Hid (ranksB s = ws9.reverse) := by show _ = _; rw [← hws9, List.reverse_reverse]
  have hxs : Hid (∀ x, x ∈ ws9 → x.size ≤ 1000) := fun x hx => by
    rw [← hws9, List.mem_reverse] at hx
    have := ranks_size hx; omega
  clear hws9
  go_enter Tryd.func31, Tryd.ntmps31
  go_upto_region 1 with fail
  generalize w.alloc (.cells #[.int .i64 0, .int .i64 0, .slice none 0 0] 26) = w1 at *
  have hz1 := Lib.hid hT.out.lt
  go_wp2_with fail
  go_loopw [4, 5] (fun v i wr => ∃ (k : Nat) (A : Option Addr) (c : Nat) (ws : List ByteArray), k ≤ s.size ∧ i = .int .i64 k ∧ v = .slice A ws.length c ∧ Hid (wlS s k = ws) ∧ ws.length ≤ k + 1 ∧ Hid (∃ pre last, ws = pre ++ [last] ∧ last.size ≤ k) ∧ Hid (O1 sEnc 1 w1.heap.size 9 w1 wr A c ws)) (fun _ i _ => s.size - (intOf i).toNat)
  case atStart =>
    refine ⟨0, some ⟨w1.heap.size, 0, none⟩, 1, [⟨#[]⟩], by omega, rfl, rfl, wlS_zero s, by simp, ⟨[], ⟨#[]⟩, rfl, by decide⟩, ⟨?_, (Below.refl _ _).alloc (Nat.le_refl _) _, by simp⟩⟩
    exact World.ownsRow_lit w1 #[.string ⟨#[]⟩] 1 (Nat.le_refl _) (by decide) rfl
  case round =>
    obtain ⟨k, A, c, ws, hk, rfl, rfl, hw, hlk, hlast, hO⟩ := hrel
    by_cases hkn : k < s.size
    · have hsu := Lib.hid (wlS_succ s k hkn)
      have hki : (k : Int) < (s.size : Int) := by omega
      by_cases hc : (s[k]'hkn) = 47
      · have hb : (((s[k]'hkn).toNat : Int) == 47) = true := by rw [hc]; rfl
        replace hc := Lib.hid hc
        have htl : Hid (ws.length ≤ 2000) := by show _ ≤ _; omega
        go_wp2_with (at_builtin; refine wpList_append_recs strRow sEnc_len sEnc_one rfl _ _ rfl w1.heap.size A c ws rfl (hO.out.alloc _).own _ 1 [⟨#[]⟩] rfl (recs_str _ _ _) (by have := htl.out; simp only [List.length_cons, List.length_nil]; omega) (hO.out.alloc _).size ?_; intro A2 c2 w2 hown hg _; have hO' := Lib.hid ((hO.out.alloc _).app hown hg); clear hown hg)
        go_roundw
        case rel => exact ⟨k + 1, A2, c2, ws ++ [⟨#[]⟩], by omega, by go_num, by rw [List.length_append]; rfl, by show _ = _; rw [hsu.out, hc.out, hw.out, nextS_blank], by simp; omega, ⟨ws, ⟨#[]⟩, rfl, by show 0 ≤ _; omega⟩, hO'⟩
        case measure => simp [intOf]; omega
      · obtain ⟨pre, last, hws, hls⟩ := hlast.out
        obtain ⟨n, hn⟩ : ∃ n, pre.length = n := ⟨_, rfl⟩
        have hlen : ws.length = n + 1 := by rw [hws, List.length_append, hn]; rfl
        obtain ⟨g, rfl, hg⟩ := own_form hO.out.own (by omega)
        have hcell : wr.cell? ⟨g, n, none⟩ = some (.string last) := by
          have h2 := World.ownsRow.cellAt hO.out.own n (by omega)
          rw [h2, flatS, hws, List.map_append, List.getElem?_append_right (by rw [List.length_map]; omega), List.length_map, hn]
          simp
        have hfro : wr.frozen? ⟨g, n, none⟩ = false := World.ownsRow.frozenAt hO.out.own n
        have hb : (((s[k]'hkn).toNat : Int) == 47) = false := by
          rw [beq_eq_false_iff_ne]
          intro e
          apply hc
          apply UInt8.toNat_inj.1
          show (s[k]'hkn).toNat = 47
          omega
        have hex : Hid (s.extract k (k + 1) = ⟨#[s[k]'hkn]⟩) := by
          show _ = _
          exact ext_one s k hkn
        have hnx : Hid (wlS s (k + 1) = pre ++ [last ++ ⟨#[s[k]'hkn]⟩]) := by show _ = _; rw [hsu.out, hw.out, hws, nextS_byte _ _ hc]
        have hO2 : Hid (∀ t, O1 sEnc 1 w1.heap.size 9 w1 (wr.drew.setCell ⟨g, n, none⟩ (.string t)) (some ⟨g, 0, none⟩) c (pre ++ [t])) := fun t => by
          have h3 := hO.out
          rw [hws] at h3
          have h4 : O1 sEnc 1 w1.heap.size 9 w1 wr.drew (some ⟨g, 0, none⟩) c (pre ++ [last]) := ⟨h3.own, h3.below.drew, h3.size⟩
          have h5 := h4.store g rfl t
          rw [hn] at h5
          exact h5
        have hws1 : IntKind.i64.wrap (n : Int) = (n : Int) := IntWalk.i64_in _ (by omega)
        have hwk1 : IntKind.i64.wrap ((k : Int) + 1) = (k : Int) + 1 := IntWalk.i64_in _ (by omega)
        have hls' : last.size + 1 ≤ 1001 := by omega
        have hsx : (s.extract k (k + 1)).size = 1 := by rw [hex.out]; rfl
        have hcat : (9223372036854775807 < last.size + 1) = False := by rw [eq_iff_iff, iff_false]; omega
        have hin : (n : Int) < (n : Int) + 1 := by omega
        have hki1 : (k : Int) + 1 ≤ (s.size : Int) := by omega
        have hki2 : (k : Int) ≤ (k : Int) + 1 := by omega
        rw [hlen]
        clear hc hlast hO hw
        replace hws := Lib.hid hws
        replace hsu := Lib.hid hsu
        go_upto_region 7 with fail
        refine wp_region_still_tail 17 (by kernel_rfl) (by kernel_rfl) ?_
        simp only [List.take_succ_cons, List.take_zero, List.drop_succ_cons, List.drop_zero]
        repeat still_step
        refine wpStill_nil ?_
        change wpList _ _ _ _ _ (World.drew _)
        generalize s.extract k (k + 1) = X at *
        have hfd : wr.drew.frozen? ⟨g, n, none⟩ = false := hfro
        have hcd : wr.drew.cell? ⟨g, n, none⟩ = some (.string last) := hcell
        go_wp2_with fail
        go_roundw
        case rel =>
          refine ⟨k + 1, some ⟨g, 0, none⟩, c, pre ++ [last ++ X], by omega, by go_num, by rw [List.length_append, hn]; rfl, by show _ = _; rw [hnx.out, hex.out], ?_, ⟨pre, last ++ X, rfl, ?_⟩, ?_⟩
          · rw [List.length_append, hn]; show n + 1 ≤ _; omega
          · rw [ByteArray.size_append, hsx]; omega
          · have h6 := hO2.out (last ++ X)
            exact ⟨h6.own, h6.below, h6.size⟩
        case measure => simp [intOf]; omega
    · obtain rfl : k = s.size := by omega
      obtain rfl : ws = ws9 := by rw [← hw.out]; exact hfin.out
      have hl1 : 0 < ws.length := by obtain ⟨pre, last, e, _⟩ := hlast.out; rw [e, List.length_append, List.length_cons]; omega
      obtain ⟨g, rfl, hgb⟩ := own_form hO.out.own hl1
      have hg2 : g < wr.heap.size := (World.ownsRow.lt hO.out.own g rfl).2
      have hrk := Lib.hid (fun (j : Nat) (x : ByteArray) (hx : ws[j]? = some x) => hO.out.cell1 (g := Value.string) (fun _ => rfl) hx)
      replace hT := Lib.hid (hT.out.next hO.out.below)
      replace hbb := Lib.hid (below_all hbb.out hO.out.below)
      have hgw : w.heap.size < g := by have := hz1.out; omega
      clear hO hw hlast hfin hz1 hgb
      by_cases h38 : ws.length < 3 ∨ 8 < ws.length
      · have hpn : Hid (refP s = none) := refP_far (by rw [hrw.out, List.length_reverse]; exact h38)
        have m0 := hT.out.c0
        have m1 := hT.out.c1
        have m2 := hT.out.c2
        have n0 := hT.out.fr 0
        have n1 := hT.out.fr 1
        have n2 := hT.out.fr 2
        by_cases h3 : ws.length < 3
        · have h3I : (ws.length : Int) < 3 := by omega
          go_wp2_with fail
          obtain ⟨s0, s1, s2⟩ := set3 m0 m1 m2 (.int .i64 0) (.int .i64 0) (.slice none 0 0)
          exact bodyPost_ret (v := .tuple #[bV 0 0 none 0 0, .bool false]) (by simp [results, Tryd.results31, go_sem, s0, s1, s2]) rfl (RP_none hpn.out ⟨rfl, below_set3 hbb.out (Nat.le_refl _) _ _ _⟩)
        · have h3I : ((ws.length : Int) < 3) = False := by rw [eq_iff_iff, iff_false]; omega
          have h8I : (8 : Int) < (ws.length : Int) := by omega
          go_wp2_with fail
          obtain ⟨s0, s1, s2⟩ := set3 m0 m1 m2 (.int .i64 0) (.int .i64 0) (.slice none 0 0)
          exact bodyPost_ret (v := .tuple #[bV 0 0 none 0 0, .bool false]) (by simp [results, Tryd.results31, go_sem, s0, s1, s2]) rfl (RP_none hpn.out ⟨rfl, below_set3 hbb.out (Nat.le_refl _) _ _ _⟩)
      · have h3I : ((ws.length : Int) < 3) = False := by rw [eq_iff_iff, iff_false]; omega
        have h8I : ((8 : Int) < (ws.length : Int)) = False := by rw [eq_iff_iff, iff_false]; omega
        have hr3 : 3 ≤ ws.length := by omega
        have hr8 : ws.length ≤ 8 := by omega
        have hno38 : Hid (¬ ((ranksB s).length < 3 ∨ 8 < (ranksB s).length)) := by show ¬ _; rw [hrw.out, List.length_reverse]; exact h38
        have hP := Lib.hid (P6.first hT.out hrk.out hbb.out hg2 hgw 26)
        clear h38
        go_upto_region 11 with fail
        clear hT hbb hrk hg2 hgw
        generalize hB6 : wr.heap.size = B6 at *
        generalize wr.alloc (.cells #[.int .i64 0, .int .i64 0, .slice none 0 0] 26) = w4 at *
        clear hB6
        go_wp2_with fail
        go_loopw [7, 8, 9, 10, 11, 12] (fun i7 _ _ _ _ _ wr => ∃ (k : Nat) (y : Int) (f : Nat) (r6 : Int) (A : Option Addr) (c : Nat) (P : List Int), k ≤ ws.length ∧ i7 = .int .i64 y ∧ y = (ws.length : Int) - 1 - k ∧ Hid (rfL (ws.reverse.take k) = some (f, P)) ∧ Hid (0 < k → r6 = (ws.length : Int)) ∧ Hid (P6 w w.heap.size B6 (B6 + 1) g ws wr (f : Int) r6 A c P)) (fun i7 _ _ _ _ _ _ => (intOf i7 + 1).toNat)
        case atStart => exact ⟨0, _, 0, 0, none, 0, [], by omega, rfl, by first | rfl | go_num | omega, rfl, (fun h => absurd h (by omega)), hP⟩
        case round =>
          clear hP
          obtain ⟨k, y, f, r6, A, c, P, hk, rfl, hy, hrf, hr6, hP⟩ := hrel
          generalize wr = w5 at *
          obtain ⟨q1, q2, _, _⟩ := rfL_rows (rs := ws.reverse) k f P (by rw [List.length_reverse]; exact hk) hrf.out
          have hPl : P.length ≤ 64 := by
            rcases Nat.eq_zero_or_pos k with rfl | h0
            · rw [q1]; omega
            · have h5 := (q2 h0).2
              have h6 : k * f ≤ 8 * 8 := Nat.mul_le_mul (by omega) h5
              omega
          have hf8 : f ≤ 8 := by
            rcases Nat.eq_zero_or_pos k with rfl | h0
            · obtain ⟨e1, _⟩ := Prod.mk.inj (Option.some.inj (show some (0, []) = some (f, P) from hrf.out))
              omega
            · exact (q2 h0).2
          clear q1 q2
          by_cases hkn : k < ws.length
          · obtain ⟨yn, hyn⟩ : ∃ yn, ws.length - 1 - k = yn := ⟨_, rfl⟩
            obtain rfl : y = (yn : Int) := by omega
            have hynl : (yn : Int) < (ws.length : Int) := by omega
            obtain ⟨x, hx⟩ : ∃ x, ws[yn]? = some x := ⟨_, List.getElem?_eq_getElem (by omega)⟩
            have hxr : ws.reverse[k]? = some x := by rw [rev_get hkn, hyn]; exact hx
            have hxz := hxs.out x (List.mem_of_getElem? hx)
            have hnext : Hid (rfL (ws.reverse.take (k + 1)) = rfStep (some (f, P)) x) := by show _ = _; rw [rfL_snoc hxr, hrf.out]
            have hbad : Hid (rfStep (some (f, P)) x = none → refP s = none) := fun h => refP_bad (k := k + 1) (by rw [hrw.out, hnext.out]; exact h)
            replace hx := Lib.hid hx
            replace hxr := Lib.hid hxr
            replace hy := Lib.hid hy
            replace hyn := Lib.hid hyn
            go_wp2_with fail
            go_loopw [8, 9, 10, 11, 12] (fun sv dv iv _ _ wi => ∃ (i : Nat) (A8 : Option Addr) (c8 : Nat) (row : List Int) (dg : Bool), i ≤ x.size ∧ iv = .int .i64 i ∧ sv = .slice A8 row.length c8 ∧ dv = .bool dg ∧ row.length ≤ 8 * i ∧ Hid (rdL (x.data.toList.take i) = some (row, dg)) ∧ Hid (O1 qEnc 1 w5.heap.size 28 w5 wi A8 c8 row)) (fun _ _ iv _ _ _ => x.size - (intOf iv).toNat)
            case atStart => exact ⟨0, none, 0, [], false, by omega, rfl, rfl, rfl, by simp, by show _ = _; rw [List.take_zero]; rfl, O1.nil (Below.refl _ _) (Nat.le_refl _)⟩
            case round =>
              obtain ⟨i, A8, c8, row, dg, hi, rfl, rfl, rfl, hrl, hrd, hO⟩ := hrel
              have hPi := Lib.hid (hP.out.next hO.out.below)
              have q0 := hPi.out.rk yn x hx.out
              by_cases hin : i < x.size
              · have hst : Hid (rdL (x.data.toList.take (i + 1)) = rdB (some (row, dg)) (x[i]'hin)) := by show _ = _; rw [take_snoc x i hin, rdL_snoc, hrd.out]
                have hnone : Hid (rdL (x.data.toList.take (i + 1)) = none → refP s = none) := fun h => hbad.out (rfStep_no1 (by
                  have h2 := rdL_none h (x.data.toList.drop (i + 1))
                  rwa [List.take_append_drop] at h2))
                obtain ⟨cb, hcb⟩ : ∃ cb, (x[i]'hin).toNat = cb := ⟨_, rfl⟩
                have hcb9 : cb ≤ 255 := by rw [← hcb]; have := (x[i]'hin).toNat_lt; omega
                by_cases hd : 49 ≤ (x[i]'hin).toNat ∧ (x[i]'hin).toNat ≤ 56
                · have d1 : (49 : Int) ≤ ((x[i]'hin).toNat : Int) := by omega
                  have d2 : ((x[i]'hin).toNat : Int) ≤ 56 := by omega
                  cases dg with
                  | true =>
                    have hpn : Hid (refP s = none) := hnone.out (by rw [hst.out, rdB_dig2 hd])
                    have m0 := hPi.out.t2.c0
                    have m1 := hPi.out.t2.c1
                    have m2 := hPi.out.t2.c2
                    have n0 := hPi.out.t2.fr 0
                    have n1 := hPi.out.t2.fr 1
                    have n2 := hPi.out.t2.fr 2
                    go_wp2_with fail
                    obtain ⟨s0, s1, s2⟩ := set3 m0 m1 m2 (.int .i64 0) (.int .i64 0) (.slice none 0 0)
                    exact bodyPost_ret (v := .tuple #[bV 0 0 none 0 0, .bool false]) (by simp [results, Tryd.results31, go_sem, s0, s1, s2]) rfl (RP_none hpn.out ⟨rfl, below_set3 hPi.out.below (Nat.le_refl _) _ _ _⟩)
                  | false =>
                    have hrow9 : Hid (rdL (x.data.toList.take (i + 1)) = some (row ++ List.replicate (cb - 48) 0, true)) := by show _ = _; rw [hst.out, rdB_dig hd, hcb]
                    have hcb1 : 49 ≤ cb := by omega
                    have hcb2 : cb ≤ 56 := by omega
                    rw [hcb] at d1 d2
                    go_wp2_with fail
                    go_loopw [8, 12] (fun sv nv wn => ∃ (n : Nat) (A9 : Option Addr) (c9 : Nat) (row9 : List Int), 48 ≤ n ∧ n ≤ cb ∧ nv = .int .u8 (n : Int) ∧ sv = .slice A9 row9.length c9 ∧ row9.length ≤ 8 * i + (n - 48) ∧ Hid (row ++ List.replicate (n - 48) 0 = row9) ∧ Hid (O1 qEnc 1 w5.heap.size 28 w5 wn A9 c9 row9)) (fun _ nv _ => cb - (intOf nv).toNat)
                    case atStart => exact ⟨48, A8, c8, row, by omega, by omega, rfl, rfl, by omega, by show _ = _; simp, hO⟩
                    case round =>
                      clear q0 hPi hO
                      obtain ⟨n, A9, c9, row9, hn1, hn2, rfl, rfl, hr9, hrow, hO⟩ := hrel
                      by_cases hnc : n < cb
                      · have hncI : (n : Int) < (cb : Int) := by omega
                        obtain ⟨row2, hrow2⟩ : ∃ row2, row9 ++ [(0 : Int)] = row2 := ⟨_, rfl⟩
                        have hrow3 : Hid (row ++ List.replicate (n + 1 - 48) 0 = row2) := by
                          show _ = _
                          rw [← hrow2, ← hrow.out, show n + 1 - 48 = (n - 48) + 1 by omega, List.replicate_succ', List.append_assoc]
                        have hrl2 : row2.length ≤ 8 * i + (n + 1 - 48) := by rw [← hrow2, List.length_append, List.length_cons, List.length_nil]; omega
                        replace hrow2 := Lib.hid hrow2
                        go_wp2_with (at_builtin; refine wpList_append_recs pieceRow qEnc_len qEnc_one rfl _ _ rfl w5.heap.size A9 c9 row9 rfl (hO.out.alloc _).own _ 1 [0] rfl (recs_q _ _ rfl 0 _) (by simp only [List.length_cons, List.length_nil]; omega) (hO.out.alloc _).size ?_; intro A' c' w' hown hg _; rw [hrow2.out] at hown ⊢; have hO' := Lib.hid ((hO.out.alloc _).app hown hg); clear hown hg)
                        go_roundw
                        case rel => exact ⟨n + 1, A', c', row2, by omega, by omega, by go_num, rfl, hrl2, hrow3, hO'⟩
                        case measure => simp [intOf]; omega
                      · obtain rfl : n = cb := by omega
                        go_wp2_with fail
                        go_roundw
                        case rel => exact ⟨i + 1, A9, c9, row9, true, by omega, by go_num, rfl, rfl, by omega, by show _ = _; rw [hrow9.out, hrow.out], hO⟩
                        case measure => simp [intOf]; omega
                · have hlo : ((49 : Int) ≤ ((x[i]'hin).toNat : Int) ∧ ((x[i]'hin).toNat : Int) ≤ 56) = False := by rw [eq_iff_iff, iff_false]; omega
                  have hpp := Lib.hid (fun W : World => PC.rparse ((x[i]'hin).toNat : Int) W (by omega) (by omega))
                  replace hcb := Lib.hid hcb
                  by_cases hp : PC.parV ((x[i]'hin).toNat : Int) = 0
                  · have hpn : Hid (refP s = none) := hnone.out (by rw [hst.out, rdB_bad hd hp])
                    rw [hp] at hpp
                    have m0 := hPi.out.t2.c0
                    have m1 := hPi.out.t2.c1
                    have m2 := hPi.out.t2.c2
                    have n0 := hPi.out.t2.fr 0
                    have n1 := hPi.out.t2.fr 1
                    have n2 := hPi.out.t2.fr 2
                    by_cases hd1 : 49 ≤ (x[i]'hin).toNat
                    · have e1 : (49 : Int) ≤ ((x[i]'hin).toNat : Int) := by omega
                      have e2 : (((x[i]'hin).toNat : Int) ≤ 56) = False := by rw [eq_iff_iff, iff_false]; omega
                      clear hd hlo hp
                      go_wp2_with (go_at_call 54; refine (hpp.out _).mono ?_; rintro e w' ⟨rfl, rfl⟩)
                      obtain ⟨s0, s1, s2⟩ := set3 m0 m1 m2 (.int .i64 0) (.int .i64 0) (.slice none 0 0)
                      exact bodyPost_ret (v := .tuple #[bV 0 0 none 0 0, .bool false]) (by simp [results, Tryd.results31, go_sem, s0, s1, s2]) rfl (RP_none hpn.out ⟨rfl, below_set3 hPi.out.below (Nat.le_refl _) _ _ _⟩)
                    · have e1 : ((49 : Int) ≤ ((x[i]'hin).toNat : Int)) = False := by rw [eq_iff_iff, iff_false]; omega
                      clear hd hlo hp hd1
                      go_wp2_with (go_at_call 54; refine (hpp.out _).mono ?_; rintro e w' ⟨rfl, rfl⟩)
                      obtain ⟨s0, s1, s2⟩ := set3 m0 m1 m2 (.int .i64 0) (.int .i64 0) (.slice none 0 0)
                      exact bodyPost_ret (v := .tuple #[bV 0 0 none 0 0, .bool false]) (by simp [results, Tryd.results31, go_sem, s0, s1, s2]) rfl (RP_none hpn.out ⟨rfl, below_set3 hPi.out.below (Nat.le_refl _) _ _ _⟩)
                  · obtain ⟨row2, hrow2⟩ : ∃ row2, row ++ [PC.parV ((x[i]'hin).toNat : Int)] = row2 := ⟨_, rfl⟩
                    have hrow3 : Hid (rdL (x.data.toList.take (i + 1)) = some (row2, false)) := by show _ = _; rw [hst.out, rdB_let hd hp, hrow2]
                    have hrl2 : row2.length ≤ 8 * (i + 1) := by rw [← hrow2, List.length_append, List.length_cons, List.length_nil]; omega
                    replace hrow2 := Lib.hid hrow2
                    by_cases hd1 : 49 ≤ (x[i]'hin).toNat
                    · have e1 : (49 : Int) ≤ ((x[i]'hin).toNat : Int) := by omega
                      have e2 : (((x[i]'hin).toNat : Int) ≤ 56) = False := by rw [eq_iff_iff, iff_false]; omega
                      clear hd hlo hst
                      generalize PC.parV ((x[i]'hin).toNat : Int) = pv at *
                      go_wp2_with (first
                        | (go_at_call 54; refine (hpp.out _).mono ?_; rintro e w' ⟨rfl, rfl⟩)
                        | (at_builtin; refine wpList_append_recs pieceRow qEnc_len qEnc_one rfl _ _ rfl w5.heap.size A8 c8 row rfl (hO.out.alloc _).own _ 1 [pv] rfl (recs_q _ _ rfl pv _) (by simp only [List.length_cons, List.length_nil]; omega) (hO.out.alloc _).size ?_; intro A' c' w' hown hg _; rw [hrow2.out] at hown ⊢; have hO' := Lib.hid ((hO.out.alloc _).app hown hg); clear hown hg))
                      go_roundw
                      case rel => exact ⟨i + 1, A', c', row2, false, by omega, by go_num, rfl, rfl, hrl2, hrow3, hO'⟩
                      case measure => simp [intOf]; omega
                    · have e1 : ((49 : Int) ≤ ((x[i]'hin).toNat : Int)) = False := by rw [eq_iff_iff, iff_false]; omega
                      clear hd hlo hd1 hst
                      generalize PC.parV ((x[i]'hin).toNat : Int) = pv at *
                      go_wp2_with (first
                        | (go_at_call 54; refine (hpp.out _).mono ?_; rintro e w' ⟨rfl, rfl⟩)
                        | (at_builtin; refine wpList_append_recs pieceRow qEnc_len qEnc_one rfl _ _ rfl w5.heap.size A8 c8 row rfl (hO.out.alloc _).own _ 1 [pv] rfl (recs_q _ _ rfl pv _) (by simp only [List.length_cons, List.length_nil]; omega) (hO.out.alloc _).size ?_; intro A' c' w' hown hg _; rw [hrow2.out] at hown ⊢; have hO' := Lib.hid ((hO.out.alloc _).app hown hg); clear hown hg))
                      go_roundw
                      case rel => exact ⟨i + 1, A', c', row2, false, by omega, by go_num, rfl, rfl, hrl2, hrow3, hO'⟩
                      case measure => simp [intOf]; omega
              · obtain rfl : i = x.size := by omega
                have hrx : Hid (rdL x.data.toList = some (row, dg)) := by
                  show _ = _
                  rw [← hrd.out, List.take_of_length_le (by rw [Array.length_toList]; exact Nat.le_refl _)]
                have t60 := hPi.out.t6.c0
                have t61 := hPi.out.t6.c1
                have t62 := hPi.out.t6.c2
                have f60 := hPi.out.t6.fr 0
                have f61 := hPi.out.t6.fr 1
                have f62 := hPi.out.t6.fr 2
                by_cases h3 : row.length < 3
                · have hpn : Hid (refP s = none) := hbad.out (rfStep_no2 hrx.out (.inl h3))
                  have e1 : (row.length : Int) < 3 := by omega
                  have m0 := hPi.out.t2.c0
                  have m1 := hPi.out.t2.c1
                  have m2 := hPi.out.t2.c2
                  have n0 := hPi.out.t2.fr 0
                  have n1 := hPi.out.t2.fr 1
                  have n2 := hPi.out.t2.fr 2
                  go_wp2_with fail
                  obtain ⟨s0, s1, s2⟩ := set3 m0 m1 m2 (.int .i64 0) (.int .i64 0) (.slice none 0 0)
                  exact bodyPost_ret (v := .tuple #[bV 0 0 none 0 0, .bool false]) (by simp [results, Tryd.results31, go_sem, s0, s1, s2]) rfl (RP_none hpn.out ⟨rfl, below_set3 hPi.out.below (Nat.le_refl _) _ _ _⟩)
                · have e1 : ((row.length : Int) < 3) = False := by rw [eq_iff_iff, iff_false]; omega
                  by_cases h8 : 8 < row.length
                  · have hpn : Hid (refP s = none) := hbad.out (rfStep_no2 hrx.out (.inr h8))
                    have e2 : (8 : Int) < (row.length : Int) := by omega
                    have m0 := hPi.out.t2.c0
                    have m1 := hPi.out.t2.c1
                    have m2 := hPi.out.t2.c2
                    have n0 := hPi.out.t2.fr 0
                    have n1 := hPi.out.t2.fr 1
                    have n2 := hPi.out.t2.fr 2
                    go_wp2_with fail
                    obtain ⟨s0, s1, s2⟩ := set3 m0 m1 m2 (.int .i64 0) (.int .i64 0) (.slice none 0 0)
                    exact bodyPost_ret (v := .tuple #[bV 0 0 none 0 0, .bool false]) (by simp [results, Tryd.results31, go_sem, s0, s1, s2]) rfl (RP_none hpn.out ⟨rfl, below_set3 hPi.out.below (Nat.le_refl _) _ _ _⟩)
                  · have e2 : ((8 : Int) < (row.length : Int)) = False := by rw [eq_iff_iff, iff_false]; omega
                    by_cases hbadf : 0 < P.length ∧ row.length ≠ f
                    · have hpn : Hid (refP s = none) := hbad.out (rfStep_no3 hrx.out (by omega) hbadf)
                      have e3 : (0 : Int) < (P.length : Int) := by omega
                      have e4 : ((row.length : Int) != (f : Int)) = true := by rw [bne_iff_ne]; omega
                      have m0 := hPi.out.t2.c0
                      have m1 := hPi.out.t2.c1
                      have m2 := hPi.out.t2.c2
                      have n0 := hPi.out.t2.fr 0
                      have n1 := hPi.out.t2.fr 1
                      have n2 := hPi.out.t2.fr 2
                      go_wp2_with fail
                      obtain ⟨s0, s1, s2⟩ := set3 m0 m1 m2 (.int .i64 0) (.int .i64 0) (.slice none 0 0)
                      exact bodyPost_ret (v := .tuple #[bV 0 0 none 0 0, .bool false]) (by simp [results, Tryd.results31, go_sem, s0, s1, s2]) rfl (RP_none hpn.out ⟨rfl, below_set3 hPi.out.below (Nat.le_refl _) _ _ _⟩)
                    · obtain ⟨P2, hP2⟩ : ∃ P2, P ++ row = P2 := ⟨_, rfl⟩
                      have hnx : Hid (rfL (ws.reverse.take (k + 1)) = some (row.length, P2)) := by show _ = _; rw [hnext.out, rfStep_yes hrx.out (by omega) hbadf, hP2]
                      replace hP2 := Lib.hid hP2
                      have hB := hPi.out.lt
                      have hBw : B6 < w5.heap.size := hP.out.t6.lt
                      have hrowA : Hid (RecAt qEnc 1 ((wr.setCell ⟨B6, 0, none⟩ (.int .i64 (row.length : Int))).setCell ⟨B6, 1, none⟩ (.int .i64 (ws.length : Int))) ((wr.setCell ⟨B6, 0, none⟩ (.int .i64 (row.length : Int))).setCell ⟨B6, 1, none⟩ (.int .i64 (ws.length : Int))).heap.size A8 row) := by
                        have hne : (Value.slice A8 row.length c8).ownBlock ≠ some B6 := fun e => by have := (World.ownsRow.lt hO.out.own B6 e).1; omega
                        exact RecAt.of_own qEnc_len rfl (ownsRow_setCell_other (ownsRow_setCell_other hO.out.own hne _) hne _)
                      have hP7 := Lib.hid (hPi.out.size (row.length : Int) (ws.length : Int))
                      by_cases hP0 : 0 < P.length
                      · have e3 : (0 : Int) < (P.length : Int) := by omega
                        have e4 : ((row.length : Int) != (f : Int)) = false := by rw [bne_eq_false_iff_eq]; have := Classical.byContradiction fun hn => hbadf ⟨hP0, hn⟩; omega
                        clear hbadf
                        go_upto_region 35 with fail
                        generalize (wr.setCell ⟨B6, 0, none⟩ (.int .i64 (row.length : Int))).setCell ⟨B6, 1, none⟩ (.int .i64 (ws.length : Int)) = w7 at *
                        clear t60 t61 t62 f60 f61 f62
                        have t62 := hP7.out.t6.c2
                        have f62 := hP7.out.t6.fr 2
                        go_wp2_with (at_builtin; refine wpList_append_recs pieceRow qEnc_len qEnc_one rfl _ _ rfl (B6 + 1) A c P rfl hP7.out.own A8 c8 row rfl hrowA.out (by omega) hP7.out.big ?_; intro A6 c6 w6 hown6 hg6 _; rw [hP2.out] at hown6 ⊢; have hP8 := Lib.hid (hP7.out.app hg6 hown6); obtain ⟨_, t6, _, _, _⟩ := hP7.out.grown hg6; have m2 := t6.c2; have n2 := t6.fr 2; clear hown6 hg6 t6)
                        go_roundw
                        case rel => exact ⟨k + 1, _, row.length, _, A6, c6, P2, by omega, rfl, by have := hy.out; omega, hnx, (fun _ => rfl), hP8⟩
                        case measure => simp [intOf]; try omega
                      · have e3 : ((0 : Int) < (P.length : Int)) = False := by rw [eq_iff_iff, iff_false]; omega
                        clear hbadf
                        go_upto_region 35 with fail
                        generalize (wr.setCell ⟨B6, 0, none⟩ (.int .i64 (row.length : Int))).setCell ⟨B6, 1, none⟩ (.int .i64 (ws.length : Int)) = w7 at *
                        clear t60 t61 t62 f60 f61 f62
                        have t62 := hP7.out.t6.c2
                        have f62 := hP7.out.t6.fr 2
                        go_wp2_with (at_builtin; refine wpList_append_recs pieceRow qEnc_len qEnc_one rfl _ _ rfl (B6 + 1) A c P rfl hP7.out.own A8 c8 row rfl hrowA.out (by omega) hP7.out.big ?_; intro A6 c6 w6 hown6 hg6 _; rw [hP2.out] at hown6 ⊢; have hP8 := Lib.hid (hP7.out.app hg6 hown6); obtain ⟨_, t6, _, _, _⟩ := hP7.out.grown hg6; have m2 := t6.c2; have n2 := t6.fr 2; clear hown6 hg6 t6)
                        go_roundw
                        case rel => exact ⟨k + 1, _, row.length, _, A6, c6, P2, by omega, rfl, by have := hy.out; omega, hnx, (fun _ => rfl), hP8⟩
                        case measure => simp [intOf]; try omega
          · obtain rfl : k = ws.length := by omega
            have hok : Hid (refP s = some (f, ws.length, P)) := by
              have h9 := hrf.out
              rw [List.take_of_length_le (by rw [List.length_reverse]; exact Nat.le_refl _), ← hrw.out] at h9
              have h10 := refP_ok hno38.out h9
              rw [hrw.out, List.length_reverse] at h10
              exact h10
            obtain rfl := hr6.out (by omega)
            have hy1 : y = -1 := by omega
            subst hy1
            clear hy
            have t60 := hP.out.t6.c0
            have t61 := hP.out.t6.c1
            have t62 := hP.out.t6.c2
            have m0 := hP.out.t2.c0
            have m1 := hP.out.t2.c1
            have m2 := hP.out.t2.c2
            have n0 := hP.out.t2.fr 0
            have n1 := hP.out.t2.fr 1
            have n2 := hP.out.t2.fr 2
            obtain ⟨l1, l2, l3, l4⟩ := hP.out.lt
            go_wp2_with fail
            obtain ⟨s0, s1, s2⟩ := set3 m0 m1 m2 (.int .i64 (f : Int)) (.int .i64 (ws.length : Int)) (.slice A P.length c)
            have hOf : O1 qEnc 1 (B6 + 1) 28 w5 w5 A c P := ⟨hP.out.own, Below.refl _ _, hP.out.big⟩
            exact bodyPost_ret (v := .tuple #[bV (f : Int) (ws.length : Int) A P.length c, .bool true]) (by simp [results, Tryd.results31, go_sem, s0, s1, s2]) rfl (RP_some hok.out ⟨A, c, rfl, hOf.set3 (by omega) (Nat.le_refl _) hP.out.below _ _ _⟩)
end Go.Proofs.YtjglpphfkkabnaaDoor
