/- Layer 7: the law MoveLines. -/
import Derived.Test.YtlnphcdanadaeaaDoorMu
import Derived.Test.YtlnphcdanadaeaaDoorMx
import Derived.Test.YtlnphcdanadaeaaDoorMl
import Derived.Test.YtlnphcdanadaeaaDoorMn
namespace Go.Proofs.YtlnphcdanadaeaaDoor
open Go.RowKit
set_option linter.unusedSimpArgs false
set_option linter.unusedVariables false

theorem lines_long (f r : Int) (A : Option Addr) (c : Nat) (l : List Mv) (many : Int) (w : World) (hE : EnvAt w) (hl : 40 < l.length) (hm : l.length ≤ maxLen) : Calls Tryd.prog 5 #[.agg #[.int .i64 f, .int .i64 r], .slice A l.length c, .int .i64 many] w fun e w' => e = .returned (.bool true) ∧ Below w.heap.size w w' := by
  have hK := Lib.hid (BK.first f r w 23)
  have c0 := hK.out.c0
  have c1 := hK.out.c1
  have hEW : Hid (∀ W, Below w.heap.size w W → EnvAt W) := fun W hb => hE.next hb
  clear hE
  unfold maxLen at hm
  have hgt : (40 : Int) < (l.length : Int) := by omega
  go_enter Tryd.func5, Tryd.ntmps5
  go_wp2_with (go_at_call 11; refine (known_7 _ (hEW.out _ hK.out.below)).mono ?_; rintro e w9 ⟨rfl, hbw⟩; replace hK := Lib.hid (hK.out.next hbw); replace c0 := hK.out.c0; replace c1 := hK.out.c1; clear hbw)
  go_ret
  exact ⟨rfl, hK.out.below⟩
/-- the first k moves, and the size, are valid -/
def goodK (f r : Int) (l : List Mv) (k : Nat) : Bool := szB f r && (l.take k).all (okM f r)
theorem goodK_succ {f r : Int} {l : List Mv} {k : Nat} {m : Mv} (h : l[k]? = some m) : goodK f r l (k + 1) = (goodK f r l k && okM f r m) := by
  unfold goodK
  rw [List.take_add_one, h, List.all_append, Bool.and_assoc]
  simp
theorem goodK_all (f r : Int) (l : List Mv) (hl : l.length ≤ 1000) : goodK f r l l.length = lineOk f r l := by
  unfold goodK lineOk
  rw [List.take_length, decide_eq_true hl, Bool.true_and]
set_option maxRecDepth 100000 in
set_option maxHeartbeats 4000000 in
theorem lines_in (f r : Int) (A : Option Addr) (c : Nat) (l : List Mv) (many : Int) (w : World) (hE : EnvAt w) (hA : RecAt mEnc 3 w w.heap.size A l) (hl : l.length ≤ 40) : Calls Tryd.prog 5 #[.agg #[.int .i64 f, .int .i64 r], .slice A l.length c, .int .i64 many] w fun e w' => e = .returned (.bool true) ∧ Below w.heap.size w w' := by
  have hK := Lib.hid (BK.first f r w 23)
  have c0 := hK.out.c0
  have c1 := hK.out.c1
  have hEW : Hid (∀ W, Below w.heap.size w W → EnvAt W) := fun W hb => hE.next hb
  have hAW : Hid (∀ W, Below w.heap.size w W → RecAt mEnc 3 W w.heap.size A l) := fun W hb => hA.below (Nat.le_refl _) hb
  obtain ⟨LS, hLS⟩ : ∃ s, lineS f r l = s := ⟨_, rfl⟩
  obtain ⟨LE, hLE⟩ : ∃ s, lineE f r l = s := ⟨_, rfl⟩
  have hpl : Hid (∀ W, Below w.heap.size w W → Calls Tryd.prog 16 #[.agg #[.int .i64 f, .int .i64 r], .slice A l.length c] W fun e w' => e = .returned (.tuple #[.string LS, .int .i64 LE]) ∧ Below W.heap.size W w') := fun W hb => by
    rw [← hLS, ← hLE]
    exact pline_tot f r A c l W ((hAW.out W hb).more hb.size) (hEW.out W hb) (by omega)
  replace hLS := Lib.hid hLS
  replace hLE := Lib.hid hLE
  have hgo := Lib.hid (goodK_all f r l (by omega))
  have hgt : ((40 : Int) < (l.length : Int)) = False := by rw [eq_iff_iff, iff_false]; omega
  clear hE hA
  go_enter Tryd.func5, Tryd.ntmps5
  go_wp2_with (first
    | (go_at_call 16; refine (hpl.out _ hK.out.below).mono ?_; rintro e w1 ⟨rfl, hbw⟩; replace hK := Lib.hid (hK.out.next hbw); replace c0 := hK.out.c0; replace c1 := hK.out.c1; clear hbw)
    | (go_at_call 14; refine (rsize _ _ _).mono ?_; rintro e w2 ⟨rfl, hbw⟩; replace hK := Lib.hid (hK.out.next hbw); replace c0 := hK.out.c0; replace c1 := hK.out.c1; clear hbw))
  go_loopw [9, 10] (fun g i wr => ∃ k : Nat, k ≤ l.length ∧ i = .int .i64 k ∧ g = .bool (goodK f r l k) ∧ Hid (BK f r w wr)) (fun _ i _ => l.length - (intOf i).toNat)
  case atStart => exact ⟨0, by omega, rfl, by show _ = Value.bool (szB f r && true); rw [Bool.and_true], hK⟩
  case round =>
    clear c0 c1
    obtain ⟨k, hk, rfl, rfl, hKr⟩ := hrel
    clear hK
    have c0 := hKr.out.c0
    have c1 := hKr.out.c1
    by_cases hkn : k < l.length
    · obtain ⟨b, off, rfl, hb, hc⟩ := hAW.out wr hKr.out.below (by omega)
      obtain ⟨m, hm⟩ : ∃ m, l[k]? = some m := ⟨_, List.getElem?_eq_getElem hkn⟩
      obtain ⟨m0, m1, m2⟩ := rec3 hc hm
      clear hc
      have hlt := hKr.out.lt
      have hlb : b < wr.heap.size := by omega
      have hsu := Lib.hid (goodK_succ (f := f) (r := r) hm)
      replace hm := Lib.hid hm
      rcases hg : goodK f r l k with _ | _
      · have hn : Hid (goodK f r l (k + 1) = false) := by show _ = _; rw [hsu.out, hg]; rfl
        replace hg := Lib.hid hg
        go_upto_region 8 with fail
        go_quiet (fail)
        go_wp2_with fail
        go_roundw
        case rel => exact ⟨k + 1, by omega, by go_num, by rw [hn.out], by first | exact hKr | exact Lib.hid (hKr.out.next (below_drewN (Below.refl _ _) _))⟩
        case measure => simp [intOf]; omega
      · have hn : Hid (goodK f r l (k + 1) = okM f r m) := by show _ = _; rw [hsu.out, hg]; rfl
        replace hg := Lib.hid hg
        obtain ⟨V, hV⟩ : ∃ V, okM f r m = V := ⟨_, rfl⟩
        rw [hV] at hn
        have hrv : Hid (∀ W, Calls Tryd.prog 10 #[.agg #[.int .i64 f, .int .i64 r], .agg #[.int .i64 m.1, .int .i64 m.2.1, .int .i8 m.2.2]] W fun e w' => e = .returned (.bool V) ∧ Below W.heap.size W w') := fun W => by
          rw [← hV]
          exact rmvalid f r m.1 m.2.1 m.2.2 W
        replace hV := Lib.hid hV
        go_upto_region 8 with fail
        go_region_held3 (fun w' => w'.cell? ⟨w.heap.size, 0, none⟩ = some (.int .i64 f) ∧ w'.cell? ⟨w.heap.size, 1, none⟩ = some (.int .i64 r) ∧ w'.cell? ⟨b, off + k * 3, none⟩ = some (.int .i64 m.1) ∧ w'.cell? ⟨b, off + k * 3 + 1, none⟩ = some (.int .i64 m.2.1) ∧ w'.cell? ⟨b, off + k * 3 + 2, none⟩ = some (.int .i8 m.2.2)) (exact ⟨c0, c1, m0, m1, m2⟩)
          (first | (go_at_call 10; refine (hrv.out _).mono ?_; rintro e w5 ⟨rfl, hb5⟩; replace hb5 : Hid (Below wr.heap.size wr w5) := (by first | exact hb5 | exact undrew hb5); replace c0 := (hb5.out.cell (p := ⟨w.heap.size, 0, none⟩) hlt).trans c0; replace c1 := (hb5.out.cell (p := ⟨w.heap.size, 1, none⟩) hlt).trans c1; replace m0 := (hb5.out.cell (p := ⟨b, off + k * 3, none⟩) hlb).trans m0; replace m1 := (hb5.out.cell (p := ⟨b, off + k * 3 + 1, none⟩) hlb).trans m1; replace m2 := (hb5.out.cell (p := ⟨b, off + k * 3 + 2, none⟩) hlb).trans m2))
        all_goals
          go_wp2_with fail
          go_roundw
          case rel => exact ⟨k + 1, by omega, by go_num, by rw [hn.out], Lib.hid (hKr.out.next hb5.out)⟩
          case measure => simp [intOf]; omega
    · obtain rfl : k = l.length := by omega
      rw [hgo.out]
      go_upto_if 45 with fail
      go_cut [9] from 44 to 60 (fun s9 wc => Hid (Below w.heap.size w wc))
      case first =>
        rcases hok : lineOk f r l with _ | _
        · have e1 : LS = ⟨#[]⟩ := by rw [← hLS.out]; unfold lineS; rw [hok]; rfl
          have e2 : LE = 2 := by rw [← hLE.out]; unfold lineE; rw [hok]; rfl
          subst e1 e2
          replace hok := Lib.hid hok
          go_wp2_with fail
          go_meet
          exact hKr.out.below
        · obtain ⟨hsz, hall⟩ := lineOk_all hok
          have e1 : LS = joinB (l.map (txt f)) := by rw [← hLS.out]; unfold lineS; rw [hok]; rfl
          have e2 : LE = 0 := by rw [← hLE.out]; unfold lineE; rw [hok]; rfl
          have hrl : Hid (∀ W, Below w.heap.size w W → Calls Tryd.prog 17 #[.agg #[.int .i64 f, .int .i64 r], .slice A l.length c] W fun e w' => e = .returned (.string LS) ∧ Below W.heap.size W w') := fun W hb => by
            rw [e1]
            exact rline f r A c l W ((hAW.out W hb).more hb.size) (by omega) hall
          subst e2
          replace hok := Lib.hid hok
          replace hsz := Lib.hid hsz
          replace e1 := Lib.hid e1
          clear hall
          go_wp2_with (go_at_call 17; refine (hrl.out _ hKr.out.below).mono ?_; rintro e w3 ⟨rfl, hbw⟩; replace hKr := Lib.hid (hKr.out.next hbw); replace c0 := hKr.out.c0; replace c1 := hKr.out.c1; clear hbw)
          go_meet
          exact hKr.out.below
      case rest =>
        clear c0 c1 hKr hpl hLS hLE hgo
        replace hcut := Lib.hid hcut.out
        by_cases hmy : 995 ≤ many ∧ many ≤ 1005
        · obtain ⟨n, rfl⟩ : ∃ n : Nat, many = n := ⟨many.toNat, by omega⟩
          have hn0 : 995 ≤ n := by omega
          have hn1 : n ≤ 1005 := by omega
          clear hmy
          have t1 : ((n : Int) < 995) = False := by rw [eq_iff_iff, iff_false]; omega
          have t2 : ((1005 : Int) < (n : Int)) = False := by rw [eq_iff_iff, iff_false]; omega
          go_upto_region 17 with fail
          have hK := Lib.hid (BK.first 3 3 wc 23)
          generalize wc.alloc (.cells #[.int .i64 3, .int .i64 3] 23) = w3 at *
          go_wp2_with fail
          go_loopw [12, 13] (fun v i wr => ∃ (k : Nat) (A2 : Option Addr) (c2 : Nat), k ≤ n ∧ i = .int .i64 k ∧ v = .slice A2 (cps k).length c2 ∧ Hid (O1 mEnc 3 w3.heap.size 27 w3 wr A2 c2 (cps k))) (fun _ i _ => n - (intOf i).toNat)
          case atStart => exact ⟨0, none, 0, by omega, rfl, rfl, ⟨owns_nil, Below.refl _ _, Nat.le_refl _⟩⟩
          case round =>
            obtain ⟨k, A2, c2, hk2, rfl, rfl, hO⟩ := hrel
            by_cases hkn2 : k < n
            · have htl : Hid ((cps k).length ≤ 1005) := by show _ ≤ _; rw [cps_len]; omega
              have hsu := Lib.hid (cps_succ k)
              go_wp2_with (at_builtin; refine wpList_append_recs moveRow mEnc_len mEnc_one rfl _ _ rfl w3.heap.size A2 c2 (cps k) rfl (hO.out.alloc _).own _ 1 [(0, 1, 0)] rfl (recs_mv _ (0, 1, 0) _) (by have := htl.out; simp only [List.length_cons, List.length_nil]; omega) (hO.out.alloc _).size ?_; intro A3 c3 w6 hown hg _; rw [hsu.out] at hown ⊢; have hO' := Lib.hid ((hO.out.alloc _).app hown hg); clear hown hg)
              go_roundw
              case rel => exact ⟨k + 1, A3, c3, by omega, by go_num, rfl, hO'⟩
              case measure => simp [intOf]; omega
            · obtain rfl : k = n := by omega
              have hKr := Lib.hid (hK.out.next (hO.out.below))
              have hRw := Lib.hid (RecAt.of_own mEnc_len rfl hO.out.own)
              have hEr := Lib.hid (hEW.out _ (hcut.out.trans (hKr.out.below.mono hcut.out.size)))
              have hBw : Hid (Below w.heap.size w wr) := hcut.out.trans (hKr.out.below.mono hcut.out.size)
              obtain ⟨J, hJ⟩ : ∃ J, joinB ((cps k).map (txt 3)) = J := ⟨_, rfl⟩
              have hJs : J.size = 5 * k - 1 := by rw [← hJ]; exact cps_size k (by omega)
              have c0 := hKr.out.c0
              have c1 := hKr.out.c1
              have hlt := hKr.out.lt
              have k0 := c0
              have k1 := c1
              have hrl : Hid (∀ W, Below wr.heap.size wr W → Calls Tryd.prog 17 #[.agg #[.int .i64 3, .int .i64 3], .slice A2 (cps k).length c2] W fun e w' => e = .returned (.string J) ∧ Below W.heap.size W w') := fun W hb => by
                rw [← hJ]
                exact rline 3 3 A2 c2 (cps k) W ((hRw.out.below (Nat.le_refl _) hb).more hb.size) (by rw [cps_len]; omega) (cps_ok k)
              have hcl := Lib.hid (cps_len k)
              clear hK hO
              by_cases hth : k ≤ 1000
              · have t3 : ((1000 : Int) < (k : Int)) = False := by rw [eq_iff_iff, iff_false]; omega
                have hpl : Hid (∀ W, Below wr.heap.size wr W → Calls Tryd.prog 16 #[.agg #[.int .i64 3, .int .i64 3], .slice A2 (cps k).length c2] W fun e w' => e = .returned (.tuple #[.string J, .int .i64 0]) ∧ Below W.heap.size W w') := fun W hb => by
                  have h5 := pline_tot 3 3 A2 c2 (cps k) W ((hRw.out.below (Nat.le_refl _) hb).more hb.size) (hEr.out.next hb) (by rw [cps_len]; exact hth)
                  have h6 : lineOk 3 3 (cps k) = true := lineOk_mk (by decide) (by rw [cps_len]; exact hth) (cps_ok k)
                  have e1 : lineS 3 3 (cps k) = J := by unfold lineS; rw [h6]; exact hJ
                  have e2 : lineE 3 3 (cps k) = 0 := by unfold lineE; rw [h6]; rfl
                  rwa [e1, e2] at h5
                have hpp : Hid (∀ W, Below wr.heap.size wr W → Calls Tryd.prog 18 #[.agg #[.int .i64 3, .int .i64 3], .string J] W fun e w' => (∃ A c, e = .returned (.tuple #[.slice A (cps k).length c, .int .i64 0, .int .i64 0]) ∧ RecAt mEnc 3 w' w'.heap.size A (cps k)) ∧ Below W.heap.size W w') := fun W hb => by
                  rw [← hJ]
                  exact ppl_line 3 3 (cps k) W (hEr.out.next hb) (by decide) (by intro e; have := congrArg List.length e; rw [cps_len] at this; simp at this; omega) (by rw [cps_len]; exact hth) (cps_ok k)
                have hsz : ((J.size : Int) == 5 * (k : Int) - 1) = true := by rw [beq_iff_eq, hJs]; omega
                replace hJ := Lib.hid hJ
                replace hJs := Lib.hid hJs
                have hR : Hid (Below wr.heap.size wr wr) := Below.refl _ _
                go_upto_region 23 with (go_at_call 16; refine (hpl.out _ hR.out).mono ?_; rintro e w5 ⟨rfl, hb5⟩; replace hR := Lib.hid (hR.out.trans (hb5.mono hR.out.size)); clear hb5; replace c0 := (hR.out.cell (p := ⟨wc.heap.size, 0, none⟩) hlt).trans k0; replace c1 := (hR.out.cell (p := ⟨wc.heap.size, 1, none⟩) hlt).trans k1)
                go_region_held3 (fun w' => w'.cell? ⟨wc.heap.size, 0, none⟩ = some (.int .i64 3) ∧ w'.cell? ⟨wc.heap.size, 1, none⟩ = some (.int .i64 3)) (exact ⟨c0, c1⟩)
                  (first
                  | (go_at_call 17; refine (hrl.out _ (by first | exact hR.out | exact hR.out.drew | exact hR.out.drew.drew)).mono ?_; rintro e w6 ⟨rfl, hb6⟩; replace hR : Hid (Below wr.heap.size wr w6) := (by first | exact hR.out.trans (hb6.mono hR.out.size) | exact hR.out.trans ((undrew hb6).mono hR.out.size)); clear hb6; replace c0 := (hR.out.cell (p := ⟨wc.heap.size, 0, none⟩) hlt).trans k0; replace c1 := (hR.out.cell (p := ⟨wc.heap.size, 1, none⟩) hlt).trans k1)
                  | (go_at_call 18; refine (hpp.out _ (by first | exact hR.out | exact hR.out.drew | exact hR.out.drew.drew)).mono ?_; rintro e w7 ⟨⟨A5, c5, rfl, hr6⟩, hb6⟩; replace hr6 := Lib.hid hr6; have hT := Lib.hid (Below.refl w7.heap.size w7); replace hR : Hid (Below wr.heap.size wr w7) := (by first | exact hR.out.trans (hb6.mono hR.out.size) | exact hR.out.trans ((undrew hb6).mono hR.out.size)); clear hb6; replace c0 := (hR.out.cell (p := ⟨wc.heap.size, 0, none⟩) hlt).trans k0; replace c1 := (hR.out.cell (p := ⟨wc.heap.size, 1, none⟩) hlt).trans k1))
                all_goals
                  have t4 : decide (cps k = cps k) = true := decide_eq_true rfl
                  go_wp2_with (first
                    | (go_at_call 19; refine (rsame A5 A2 c5 c2 (cps k) (cps k) _ (hr6.out.below (Nat.le_refl _) hT.out |>.more hT.out.size) ((hRw.out.below (Nat.le_refl _) hR.out).more hR.out.size) (by rw [cps_len]; omega) (by rw [cps_len]; omega)).mono ?_; rintro e w8 ⟨rfl, hbw⟩; rw [t4]; replace hR := Lib.hid (hR.out.trans (hbw.mono hR.out.size)); clear hbw)
                    | (go_at_call 11; refine (known_7 _ (hEr.out.next hR.out)).mono ?_; rintro e w9 ⟨rfl, hbw⟩; replace hR := Lib.hid (hR.out.trans (hbw.mono hR.out.size)); clear hbw))
                  go_ret
                  exact ⟨rfl, hBw.out.trans (hR.out.mono hBw.out.size)⟩
              · have t3 : (1000 : Int) < (k : Int) := by omega
                have hpl : Hid (∀ W, Below wr.heap.size wr W → Calls Tryd.prog 16 #[.agg #[.int .i64 3, .int .i64 3], .slice A2 (cps k).length c2] W fun e w' => e = .returned (.tuple #[.string ⟨#[]⟩, .int .i64 2]) ∧ Below W.heap.size W w') := fun W hb =>
                  pline_far 3 3 A2 c2 (cps k) W (by rw [cps_len]; unfold maxLen; omega) (by decide) (by rw [cps_len]; omega)
                have hpp : Hid (∀ W, Below wr.heap.size wr W → Calls Tryd.prog 18 #[.agg #[.int .i64 3, .int .i64 3], .string J] W fun e w' => e = .returned (.tuple #[.slice none 0 0, .int .i64 0, .int .i64 2]) ∧ Below W.heap.size W w') := fun W hb => by
                  rw [← hJ]
                  exact ppl_line_far 3 3 (cps k) W (hEr.out.next hb) (by decide) (by rw [cps_len]; omega) (by rw [cps_len]; omega) (cps_ok k)
                replace hJ := Lib.hid hJ
                replace hJs := Lib.hid hJs
                have hR : Hid (Below wr.heap.size wr wr) := Below.refl _ _
                go_upto_region 23 with (go_at_call 16; refine (hpl.out _ hR.out).mono ?_; rintro e w5 ⟨rfl, hb5⟩; replace hR := Lib.hid (hR.out.trans (hb5.mono hR.out.size)); clear hb5; replace c0 := (hR.out.cell (p := ⟨wc.heap.size, 0, none⟩) hlt).trans k0; replace c1 := (hR.out.cell (p := ⟨wc.heap.size, 1, none⟩) hlt).trans k1)
                go_region_held3 (fun w' => w'.cell? ⟨wc.heap.size, 0, none⟩ = some (.int .i64 3) ∧ w'.cell? ⟨wc.heap.size, 1, none⟩ = some (.int .i64 3)) (exact ⟨c0, c1⟩)
                  (first
                  | (go_at_call 17; refine (hrl.out _ (by first | exact hR.out | exact hR.out.drew | exact hR.out.drew.drew)).mono ?_; rintro e w6 ⟨rfl, hb6⟩; replace hR : Hid (Below wr.heap.size wr w6) := (by first | exact hR.out.trans (hb6.mono hR.out.size) | exact hR.out.trans ((undrew hb6).mono hR.out.size)); clear hb6; replace c0 := (hR.out.cell (p := ⟨wc.heap.size, 0, none⟩) hlt).trans k0; replace c1 := (hR.out.cell (p := ⟨wc.heap.size, 1, none⟩) hlt).trans k1)
                  | (go_at_call 18; refine (hpp.out _ (by first | exact hR.out | exact hR.out.drew | exact hR.out.drew.drew)).mono ?_; rintro e w7 ⟨rfl, hb6⟩; replace hR : Hid (Below wr.heap.size wr w7) := (by first | exact hR.out.trans (hb6.mono hR.out.size) | exact hR.out.trans ((undrew hb6).mono hR.out.size)); clear hb6; replace c0 := (hR.out.cell (p := ⟨wc.heap.size, 0, none⟩) hlt).trans k0; replace c1 := (hR.out.cell (p := ⟨wc.heap.size, 1, none⟩) hlt).trans k1))
                all_goals
                  go_wp2_with (go_at_call 11; refine (known_7 _ (hEr.out.next hR.out)).mono ?_; rintro e w9 ⟨rfl, hbw⟩; replace hR := Lib.hid (hR.out.trans (hbw.mono hR.out.size)); clear hbw)
                  go_ret
                  exact ⟨rfl, hBw.out.trans (hR.out.mono hBw.out.size)⟩
        · by_cases hlo : many < 995
          · go_wp2_with (go_at_call 11; refine (known_7 _ (hEW.out _ hcut.out)).mono ?_; rintro e w9 ⟨rfl, hbw⟩; replace hcut := Lib.hid (hcut.out.trans (hbw.mono hcut.out.size)); clear hbw)
            go_ret
            exact ⟨rfl, hcut.out⟩
          · have hhi : 1005 < many := by omega
            go_wp2_with (go_at_call 11; refine (known_7 _ (hEW.out _ hcut.out)).mono ?_; rintro e w9 ⟨rfl, hbw⟩; replace hcut := Lib.hid (hcut.out.trans (hbw.mono hcut.out.size)); clear hbw)
            go_ret
            exact ⟨rfl, hcut.out⟩
theorem law_lines (f r : Int) (A : Option Addr) (c : Nat) (l : List Mv) (many : Int) (w : World) (hE : EnvAt w) (hA : RecAt mEnc 3 w w.heap.size A l) (hm : l.length ≤ maxLen) : Calls Tryd.prog 5 #[.agg #[.int .i64 f, .int .i64 r], .slice A l.length c, .int .i64 many] w fun e w' => e = .returned (.bool true) ∧ Below w.heap.size w w' := by
  by_cases hl : 40 < l.length
  · exact lines_long f r A c l many w hE hl hm
  · exact lines_in f r A c l many w hE hA (by omega)
end Go.Proofs.YtlnphcdanadaeaaDoor
