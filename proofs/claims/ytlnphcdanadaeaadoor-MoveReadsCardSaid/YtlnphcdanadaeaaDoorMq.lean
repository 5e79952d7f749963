/- Layer 7: the law MoveReads. Printed by gen_mq.py. -/
import Derived.Test.YtlnphcdanadaeaaDoorMl
import Derived.Test.YtlnphcdanadaeaaDoorMn
import Derived.Test.YtlnphcdanadaeaaDoorMp
namespace Go.Proofs.YtlnphcdanadaeaaDoor
open Go.RowKit
set_option linter.unusedSimpArgs false
set_option linter.unusedVariables false

theorem reads_long (f r : Int) (s : ByteArray) (w : World) (hE : EnvAt w) (h3 : 300 < s.size) (hm : s.size ≤ maxLen) : Calls Tryd.prog 6 #[.agg #[.int .i64 f, .int .i64 r], .string s] w fun e w' => e = .returned (.bool true) ∧ Below w.heap.size w w' := by
  have hK := Lib.hid (BK.first f r w 23)
  have c0 := hK.out.c0
  have c1 := hK.out.c1
  have hEW : Hid (∀ W, Below w.heap.size w W → EnvAt W) := fun W hb => hE.next hb
  clear hE
  unfold maxLen at hm
  have hl : (300 : Int) < (s.size : Int) := by omega
  go_enter Tryd.func6, Tryd.ntmps6
  go_wp2_with (go_at_call 11; refine (known_7 _ (hEW.out _ hK.out.below)).mono ?_; rintro e w9 ⟨rfl, hbw⟩; replace hK := Lib.hid (hK.out.next hbw); replace c0 := hK.out.c0; replace c1 := hK.out.c1; clear hbw)
  go_ret
  exact ⟨rfl, hK.out.below⟩
theorem reads_arg (f r : Int) (s : ByteArray) (w : World) (hE : EnvAt w) (h3 : s.size ≤ 300) (h : szB f r = false) : Calls Tryd.prog 6 #[.agg #[.int .i64 f, .int .i64 r], .string s] w fun e w' => e = .returned (.bool true) ∧ Below w.heap.size w w' := by
  have hK := Lib.hid (BK.first f r w 23)
  have c0 := hK.out.c0
  have c1 := hK.out.c1
  have hEW : Hid (∀ W, Below w.heap.size w W → EnvAt W) := fun W hb => hE.next hb
  clear hE
  go_enter Tryd.func6, Tryd.ntmps6
  go_wp2_with (first
    | (go_at_call 18; refine (ppl_sz _ _ _ _ h).mono ?_; rintro e w1 ⟨rfl, hbw⟩; replace hK := Lib.hid (hK.out.next hbw); replace c0 := hK.out.c0; replace c1 := hK.out.c1; clear hbw)
    | (go_at_call 14; refine (rsize _ _ _).mono ?_; rintro e w2 ⟨rfl, hbw⟩; rw [h]; replace hK := Lib.hid (hK.out.next hbw); replace c0 := hK.out.c0; replace c1 := hK.out.c1; clear hbw)
    | (go_at_call 11; refine (known_7 _ (hEW.out _ hK.out.below)).mono ?_; rintro e w9 ⟨rfl, hbw⟩; replace hK := Lib.hid (hK.out.next hbw); replace c0 := hK.out.c0; replace c1 := hK.out.c1; clear hbw))
  go_ret
  exact ⟨rfl, hK.out.below⟩
theorem s_three {B0 Bv j : Nat} {W W' : World} {f r : Int} {t : ByteArray} (h0 : B0 < W.heap.size) (h1 : Bv < W.heap.size) (c0 : W.cell? ⟨B0, 0, none⟩ = some (.int .i64 f)) (c1 : W.cell? ⟨B0, 1, none⟩ = some (.int .i64 r)) (m0 : W.cell? ⟨Bv, j, none⟩ = some (.string t)) (h : Below W.heap.size W W') :
    W'.cell? ⟨B0, 0, none⟩ = some (.int .i64 f) ∧ W'.cell? ⟨B0, 1, none⟩ = some (.int .i64 r) ∧ W'.cell? ⟨Bv, j, none⟩ = some (.string t) :=
  ⟨(h.cell (p := ⟨B0, 0, none⟩) h0).trans c0, (h.cell (p := ⟨B0, 1, none⟩) h0).trans c1, (h.cell (p := ⟨Bv, j, none⟩) h1).trans m0⟩
set_option maxRecDepth 100000 in
set_option maxHeartbeats 4000000 in
theorem reads_in (f r : Int) (s : ByteArray) (w : World) (hE : EnvAt w) (h3 : s.size ≤ 300) (h0 : s ≠ ⟨#[]⟩) (h : szB f r = true) : Calls Tryd.prog 6 #[.agg #[.int .i64 f, .int .i64 r], .string s] w fun e w' => e = .returned (.bool true) ∧ Below w.heap.size w w' := by
  have hK := Lib.hid (BK.first f r w 23)
  have c0 := hK.out.c0
  have c1 := hK.out.c1
  have hEW : Hid (∀ W, Below w.heap.size w W → EnvAt W) := fun W hb => hE.next hb
  obtain ⟨ws, hws⟩ : ∃ ws, wordsB s = ws := ⟨_, rfl⟩
  have hwl : ws.length ≤ 301 := by rw [← hws, wordsB_len]; have := Lib.countB_le sp (by decide) _ s (Nat.le_refl _); omega
  have hwz : ∀ t, t ∈ ws → t.size ≤ maxLen := by
    intro t ht
    rw [← hws] at ht
    have := words_size ht
    unfold maxLen; omega
  have hpl : Hid (∀ W, Below w.heap.size w W → Calls Tryd.prog 18 #[.agg #[.int .i64 f, .int .i64 r], .string s] W fun e w' => PLpost f r ws e w' ∧ Below W.heap.size W w') := fun W hb => by
    have hW := hEW.out W hb
    have hsp := hW.split s (by omega)
    rw [hws] at hsp
    exact ppl_in f r s ws W h h0 hsp (by omega) hwz hW.kinds (by have := hW.pos; omega)
  have hrw : Hid (∀ W, Calls Tryd.prog 20 #[.string s] W fun e w' => (∃ A c, e = .returned (.slice A ws.length c) ∧ RecAt sEnc 1 w' w'.heap.size A ws) ∧ Below W.heap.size W w') := fun W => by
    have h5 := rwords s W h0 (by omega)
    rw [words_same, hws] at h5
    exact h5
  have hrp : Hid (∀ t, t ∈ ws → ∀ W, Calls Tryd.prog 15 #[.agg #[.int .i64 f, .int .i64 r], .string t] W fun e w' => e = .returned (rres (okS f r t) (mvOf f r t).1 (mvOf f r t).2.1 (mvOf f r t).2.2) ∧ Below W.heap.size W w') := fun t ht W => rmp f r t W h (hwz t ht)
  obtain ⟨out, hout⟩ : ∃ out, ws.map (mvOf f r) = out := ⟨_, rfl⟩
  replace hout := Lib.hid hout
  have hol : Hid (out.length = ws.length) := by show _ = _; rw [← hout.out, List.length_map]
  clear hE hws hwz h0
  go_enter Tryd.func6, Tryd.ntmps6
  go_wp2_with fail
  go_at_call 18
  refine (hpl.out _ hK.out.below).mono ?_
  rintro e w1 ⟨hp, hbw⟩
  replace hK := Lib.hid (hK.out.next hbw); replace c0 := hK.out.c0; replace c1 := hK.out.c1; clear hbw
  rcases hp with ⟨i, ti, hi, hlt, hno, rfl⟩ | ⟨hall, A, c, rfl, hrec⟩
  · replace hi := Lib.hid hi
    replace hlt := Lib.hid hlt
    replace hno := Lib.hid hno
    go_wp2_with (first
      | (go_at_call 14; refine (rsize _ _ _).mono ?_; rintro e w0 ⟨rfl, hbw⟩; rw [h]; replace hK := Lib.hid (hK.out.next hbw); replace c0 := hK.out.c0; replace c1 := hK.out.c1; clear hbw)
      | (go_at_call 20; refine (hrw.out _).mono ?_; rintro e w2 ⟨⟨Av, cv, rfl, hv⟩, hbw⟩; replace hv := Lib.hid hv; replace hK := Lib.hid (hK.out.next hbw); replace c0 := hK.out.c0; replace c1 := hK.out.c1; clear hbw))
    go_loopw [9, 10] (fun v i wr => ∃ (k : Nat) (A2 : Option Addr) (c2 : Nat), k ≤ ws.length ∧ i = .int .i64 k ∧ v = .slice A2 (tk k out).length c2 ∧ Hid (∀ (j : Nat) (t : ByteArray), j < k → ws[j]? = some t → okS f r t = true) ∧ Hid (O1 mEnc 3 w2.heap.size 27 w2 wr A2 c2 (tk k out))) (fun _ i _ => ws.length - (intOf i).toNat)
    case atStart => exact ⟨0, none, 0, by omega, rfl, rfl, fun j m hj => absurd hj (Nat.not_lt_zero _), ⟨owns_nil, Below.refl _ _, Nat.le_refl _⟩⟩
    case round =>
      obtain ⟨k, A2, c2, hk, rfl, rfl, hgood, hO⟩ := hrel
      have c0 := (hO.out.below.cell (p := ⟨w.heap.size, 0, none⟩) hK.out.lt).trans hK.out.c0
      have c1 := (hO.out.below.cell (p := ⟨w.heap.size, 1, none⟩) hK.out.lt).trans hK.out.c1
      by_cases hkn : k < ws.length
      · obtain ⟨Bv, ov, rfl, hlv0, hcv⟩ := hv.out (by omega)
        obtain ⟨t, ht⟩ : ∃ t, ws[k]? = some t := ⟨_, List.getElem?_eq_getElem hkn⟩
        have m0 : wr.cell? ⟨Bv, ov + k, none⟩ = some (.string t) := by
          have h5 := hcv k t ht 0 _ rfl
          rw [Nat.mul_one, Nat.add_zero] at h5
          exact (hO.out.below.cell (p := ⟨Bv, ov + k, none⟩) hlv0).trans h5
        clear hcv
        have hlw : w.heap.size < wr.heap.size := Nat.lt_of_lt_of_le hK.out.lt hO.out.size
        have hlv : Bv < wr.heap.size := Nat.lt_of_lt_of_le hlv0 hO.out.size
        obtain ⟨a, b, p, habp⟩ : ∃ a b p, mvOf f r t = (a, b, p) := ⟨_, _, _, rfl⟩
        have hsu : Hid (tk k out ++ [(a, b, p)] = tk (k + 1) out) := by
          show _ = _
          unfold tk
          rw [List.take_add_one, show out[k]? = some (a, b, p) by rw [← hout.out, List.getElem?_map, ht, ← habp]; rfl]; rfl
        have htl : Hid ((tk k out).length ≤ 1000) := by show _ ≤ _; unfold tk; rw [List.length_take, hol.out]; omega
        have hrt : Hid (∀ W, Calls Tryd.prog 15 #[.agg #[.int .i64 f, .int .i64 r], .string t] W fun e w' => e = .returned (rres (okS f r t) a b p) ∧ Below W.heap.size W w') := fun W => by
          have h5 := hrp.out t (List.mem_of_getElem? ht) W
          rw [habp] at h5
          exact h5
        replace ht := Lib.hid ht
        replace habp := Lib.hid habp
        rcases hok : okS f r t with _ | _
        · replace hok := Lib.hid hok
          have hki : k = i := by
            rcases Nat.lt_trichotomy k i with h5 | h5 | h5
            · exact absurd (hok.out.symm.trans (hlt.out k t h5 ht.out)) (by decide)
            · exact h5
            · exact absurd (hno.out.symm.trans (hgood.out i ti h5 hi.out)) (by decide)
          subst hki
          go_upto_region 11 with fail
          go_cut [11, 12] from 43 to 78 (fun s11 s12 wc => ∃ Bm : Nat, s11 = .pointer (some ⟨Bm, 0, none⟩) ∧ s12 = .bool false ∧ Hid (Below wr.heap.size wr wc) ∧ Hid (Tri wc Bm (.int .i64 0) (.int .i64 0) (.int .i8 0)))
          case first =>
            go_region_held3 (fun w' => w'.cell? ⟨w.heap.size, 0, none⟩ = some (.int .i64 f) ∧ w'.cell? ⟨w.heap.size, 1, none⟩ = some (.int .i64 r) ∧ w'.cell? ⟨Bv, ov + k, none⟩ = some (.string t)) (exact s_three hlw hlv c0 c1 m0 (by (repeat (first | exact Below.refl _ _ | exact hX1.out | refine Below.drew ?_ | refine Below.alloc ?_ (by first | omega | (simp only [World.size_setCell, World.size_alloc, World.size_drew]; omega)) _ | refine Below.setCell ?_ (by first | omega | (dsimp only; omega)) _))))
              (first | (go_at_call 15; refine (hrt.out _).mono ?_; rintro e w1 ⟨rfl, hb1⟩; rw [hok.out, rres_f]; have hs1 := hb1.size; (try simp only [World.size_alloc, World.size_drew] at hs1); have hX1 : Hid (Below wr.heap.size wr w1) := Below.trans (by (repeat (first | exact Below.refl _ _ | exact hX1.out | refine Below.drew ?_ | refine Below.alloc ?_ (by first | omega | (simp only [World.size_setCell, World.size_alloc, World.size_drew]; omega)) _ | refine Below.setCell ?_ (by first | omega | (dsimp only; omega)) _))) (hb1.mono (by first | omega | (simp only [World.size_setCell, World.size_alloc, World.size_drew]; omega))); (first | (have hq1 := Lib.hid ((tri_new wr.drew wr.heap.size _ _ _ _ rfl).next hb1); have k0 := hq1.out.c0; have k1 := hq1.out.c1; have k2 := hq1.out.c2; have g0 := hq1.out.fr 0; have g1 := hq1.out.fr 1; have g2 := hq1.out.fr 2) | skip); clear hb1))
            all_goals
              go_wp2_with fail
              go_meet
              refine ⟨_, rfl, rfl, (by (repeat (first | exact Below.refl _ _ | exact hX1.out | refine Below.drew ?_ | refine Below.alloc ?_ (by first | omega | (simp only [World.size_setCell, World.size_alloc, World.size_drew]; omega)) _ | refine Below.setCell ?_ (by first | omega | (dsimp only; omega)) _))), ?_⟩
              (repeat (first | exact tri_new _ _ _ _ _ _ (by first | rfl | omega | (simp only [World.size_setCell, World.size_alloc, World.size_drew]; done)) | exact hq1.out | exact Tri.set hq1.out _ _ _ | refine Tri.alloc ?_ _ | refine Tri.drew ?_))
          case rest =>
            obtain ⟨Bm, rfl, rfl, hbb, hT⟩ := hcut
            have hKc : Hid (BK f r w wc) := hK.out.next (hO.out.below.trans (hbb.out.mono hO.out.size))
            go_wp2_with (go_at_call 11; refine (known_7 _ (hEW.out _ hKc.out.below)).mono ?_; rintro e w9 ⟨rfl, hbw⟩; replace hKc := Lib.hid (hKc.out.next hbw); clear hbw)
            go_ret
            exact ⟨rfl, hKc.out.below⟩
        · replace hok := Lib.hid hok
          go_upto_region 11 with fail
          go_cut [11, 12] from 43 to 78 (fun s11 s12 wc => ∃ Bm : Nat, s11 = .pointer (some ⟨Bm, 0, none⟩) ∧ s12 = .bool true ∧ Hid (Below wr.heap.size wr wc) ∧ Hid (Tri wc Bm (.int .i64 a) (.int .i64 b) (.int .i8 p)))
          case first =>
            go_region_held3 (fun w' => w'.cell? ⟨w.heap.size, 0, none⟩ = some (.int .i64 f) ∧ w'.cell? ⟨w.heap.size, 1, none⟩ = some (.int .i64 r) ∧ w'.cell? ⟨Bv, ov + k, none⟩ = some (.string t)) (exact s_three hlw hlv c0 c1 m0 (by (repeat (first | exact Below.refl _ _ | exact hX1.out | refine Below.drew ?_ | refine Below.alloc ?_ (by first | omega | (simp only [World.size_setCell, World.size_alloc, World.size_drew]; omega)) _ | refine Below.setCell ?_ (by first | omega | (dsimp only; omega)) _))))
              (first | (go_at_call 15; refine (hrt.out _).mono ?_; rintro e w1 ⟨rfl, hb1⟩; rw [hok.out, rres_t]; have hs1 := hb1.size; (try simp only [World.size_alloc, World.size_drew] at hs1); have hX1 : Hid (Below wr.heap.size wr w1) := Below.trans (by (repeat (first | exact Below.refl _ _ | exact hX1.out | refine Below.drew ?_ | refine Below.alloc ?_ (by first | omega | (simp only [World.size_setCell, World.size_alloc, World.size_drew]; omega)) _ | refine Below.setCell ?_ (by first | omega | (dsimp only; omega)) _))) (hb1.mono (by first | omega | (simp only [World.size_setCell, World.size_alloc, World.size_drew]; omega))); (first | (have hq1 := Lib.hid ((tri_new wr.drew wr.heap.size _ _ _ _ rfl).next hb1); have k0 := hq1.out.c0; have k1 := hq1.out.c1; have k2 := hq1.out.c2; have g0 := hq1.out.fr 0; have g1 := hq1.out.fr 1; have g2 := hq1.out.fr 2) | skip); clear hb1))
            all_goals
              go_wp2_with fail
              go_meet
              refine ⟨_, rfl, rfl, (by (repeat (first | exact Below.refl _ _ | exact hX1.out | refine Below.drew ?_ | refine Below.alloc ?_ (by first | omega | (simp only [World.size_setCell, World.size_alloc, World.size_drew]; omega)) _ | refine Below.setCell ?_ (by first | omega | (dsimp only; omega)) _))), ?_⟩
              (repeat (first | exact tri_new _ _ _ _ _ _ (by first | rfl | omega | (simp only [World.size_setCell, World.size_alloc, World.size_drew]; done)) | exact hq1.out | exact Tri.set hq1.out _ _ _ | refine Tri.alloc ?_ _ | refine Tri.drew ?_))
          case rest =>
            obtain ⟨Bm, rfl, rfl, hbb, hT⟩ := hcut
            have hOc := Lib.hid (hO.out.next hbb.out)
            have k0 := hT.out.c0
            have k1 := hT.out.c1
            have k2 := hT.out.c2
            clear hO
            go_wp2_with (at_builtin; refine wpList_append_recs moveRow mEnc_len mEnc_one rfl _ _ rfl w2.heap.size A2 c2 (tk k out) rfl (hOc.out.alloc _).own _ 1 [(a, b, p)] rfl (recs_mv _ (a, b, p) _) (by have := htl.out; simp only [List.length_cons, List.length_nil]; omega) (hOc.out.alloc _).size ?_; intro A3 c3 w6 hown hg _; rw [hsu.out] at hown ⊢; have hO' := Lib.hid ((hOc.out.alloc _).app hown hg); clear hown hg)
            go_roundw
            case rel =>
              refine ⟨k + 1, A3, c3, by omega, by go_num, rfl, fun j m' hj hm' => ?_, hO'.out⟩
              by_cases hjk : j < k
              · exact hgood.out j m' hjk hm'
              · obtain rfl : j = k := by omega
                rw [ht.out] at hm'
                rw [← Option.some.inj hm']
                exact hok.out
            case measure => simp [intOf]; omega
      · obtain rfl : k = ws.length := by omega
        exact absurd (hno.out.symm.trans (hgood.out i ti (by have := (List.getElem?_eq_some_iff.1 hi.out).1; omega) hi.out)) (by decide)
  · rw [hout.out] at hrec ⊢
    replace hall := Lib.hid hall
    replace hrec := Lib.hid hrec
    go_wp2_with (first
      | (go_at_call 14; refine (rsize _ _ _).mono ?_; rintro e w0 ⟨rfl, hbw⟩; rw [h]; replace hrec := Lib.hid ((hrec.out.below (Nat.le_refl _) hbw).more hbw.size); replace hK := Lib.hid (hK.out.next hbw); replace c0 := hK.out.c0; replace c1 := hK.out.c1; clear hbw)
      | (go_at_call 20; refine (hrw.out _).mono ?_; rintro e w2 ⟨⟨Av, cv, rfl, hv⟩, hbw⟩; replace hv := Lib.hid hv; replace hrec := Lib.hid ((hrec.out.below (Nat.le_refl _) hbw).more hbw.size); replace hK := Lib.hid (hK.out.next hbw); replace c0 := hK.out.c0; replace c1 := hK.out.c1; clear hbw))
    go_loopw [9, 10] (fun v i wr => ∃ (k : Nat) (A2 : Option Addr) (c2 : Nat), k ≤ ws.length ∧ i = .int .i64 k ∧ v = .slice A2 (tk k out).length c2 ∧ Hid (∀ (j : Nat) (t : ByteArray), j < k → ws[j]? = some t → okS f r t = true) ∧ Hid (O1 mEnc 3 w2.heap.size 27 w2 wr A2 c2 (tk k out))) (fun _ i _ => ws.length - (intOf i).toNat)
    case atStart => exact ⟨0, none, 0, by omega, rfl, rfl, fun j m hj => absurd hj (Nat.not_lt_zero _), ⟨owns_nil, Below.refl _ _, Nat.le_refl _⟩⟩
    case round =>
      obtain ⟨k, A2, c2, hk, rfl, rfl, hgood, hO⟩ := hrel
      have c0 := (hO.out.below.cell (p := ⟨w.heap.size, 0, none⟩) hK.out.lt).trans hK.out.c0
      have c1 := (hO.out.below.cell (p := ⟨w.heap.size, 1, none⟩) hK.out.lt).trans hK.out.c1
      by_cases hkn : k < ws.length
      · obtain ⟨Bv, ov, rfl, hlv0, hcv⟩ := hv.out (by omega)
        obtain ⟨t, ht⟩ : ∃ t, ws[k]? = some t := ⟨_, List.getElem?_eq_getElem hkn⟩
        have m0 : wr.cell? ⟨Bv, ov + k, none⟩ = some (.string t) := by
          have h5 := hcv k t ht 0 _ rfl
          rw [Nat.mul_one, Nat.add_zero] at h5
          exact (hO.out.below.cell (p := ⟨Bv, ov + k, none⟩) hlv0).trans h5
        clear hcv
        have hlw : w.heap.size < wr.heap.size := Nat.lt_of_lt_of_le hK.out.lt hO.out.size
        have hlv : Bv < wr.heap.size := Nat.lt_of_lt_of_le hlv0 hO.out.size
        obtain ⟨a, b, p, habp⟩ : ∃ a b p, mvOf f r t = (a, b, p) := ⟨_, _, _, rfl⟩
        have hsu : Hid (tk k out ++ [(a, b, p)] = tk (k + 1) out) := by
          show _ = _
          unfold tk
          rw [List.take_add_one, show out[k]? = some (a, b, p) by rw [← hout.out, List.getElem?_map, ht, ← habp]; rfl]; rfl
        have htl : Hid ((tk k out).length ≤ 1000) := by show _ ≤ _; unfold tk; rw [List.length_take, hol.out]; omega
        have hrt : Hid (∀ W, Calls Tryd.prog 15 #[.agg #[.int .i64 f, .int .i64 r], .string t] W fun e w' => e = .returned (rres (okS f r t) a b p) ∧ Below W.heap.size W w') := fun W => by
          have h5 := hrp.out t (List.mem_of_getElem? ht) W
          rw [habp] at h5
          exact h5
        replace ht := Lib.hid ht
        replace habp := Lib.hid habp
        rcases hok : okS f r t with _ | _
        · replace hok := Lib.hid hok
          exact absurd (hok.out.symm.trans (hall.out t (List.mem_of_getElem? ht.out))) (by decide)
        · replace hok := Lib.hid hok
          go_upto_region 11 with fail
          go_cut [11, 12] from 43 to 78 (fun s11 s12 wc => ∃ Bm : Nat, s11 = .pointer (some ⟨Bm, 0, none⟩) ∧ s12 = .bool true ∧ Hid (Below wr.heap.size wr wc) ∧ Hid (Tri wc Bm (.int .i64 a) (.int .i64 b) (.int .i8 p)))
          case first =>
            go_region_held3 (fun w' => w'.cell? ⟨w.heap.size, 0, none⟩ = some (.int .i64 f) ∧ w'.cell? ⟨w.heap.size, 1, none⟩ = some (.int .i64 r) ∧ w'.cell? ⟨Bv, ov + k, none⟩ = some (.string t)) (exact s_three hlw hlv c0 c1 m0 (by (repeat (first | exact Below.refl _ _ | exact hX1.out | refine Below.drew ?_ | refine Below.alloc ?_ (by first | omega | (simp only [World.size_setCell, World.size_alloc, World.size_drew]; omega)) _ | refine Below.setCell ?_ (by first | omega | (dsimp only; omega)) _))))
              (first | (go_at_call 15; refine (hrt.out _).mono ?_; rintro e w1 ⟨rfl, hb1⟩; rw [hok.out, rres_t]; have hs1 := hb1.size; (try simp only [World.size_alloc, World.size_drew] at hs1); have hX1 : Hid (Below wr.heap.size wr w1) := Below.trans (by (repeat (first | exact Below.refl _ _ | exact hX1.out | refine Below.drew ?_ | refine Below.alloc ?_ (by first | omega | (simp only [World.size_setCell, World.size_alloc, World.size_drew]; omega)) _ | refine Below.setCell ?_ (by first | omega | (dsimp only; omega)) _))) (hb1.mono (by first | omega | (simp only [World.size_setCell, World.size_alloc, World.size_drew]; omega))); (first | (have hq1 := Lib.hid ((tri_new wr.drew wr.heap.size _ _ _ _ rfl).next hb1); have k0 := hq1.out.c0; have k1 := hq1.out.c1; have k2 := hq1.out.c2; have g0 := hq1.out.fr 0; have g1 := hq1.out.fr 1; have g2 := hq1.out.fr 2) | skip); clear hb1))
            all_goals
              go_wp2_with fail
              go_meet
              refine ⟨_, rfl, rfl, (by (repeat (first | exact Below.refl _ _ | exact hX1.out | refine Below.drew ?_ | refine Below.alloc ?_ (by first | omega | (simp only [World.size_setCell, World.size_alloc, World.size_drew]; omega)) _ | refine Below.setCell ?_ (by first | omega | (dsimp only; omega)) _))), ?_⟩
              (repeat (first | exact tri_new _ _ _ _ _ _ (by first | rfl | omega | (simp only [World.size_setCell, World.size_alloc, World.size_drew]; done)) | exact hq1.out | exact Tri.set hq1.out _ _ _ | refine Tri.alloc ?_ _ | refine Tri.drew ?_))
          case rest =>
            obtain ⟨Bm, rfl, rfl, hbb, hT⟩ := hcut
            have hOc := Lib.hid (hO.out.next hbb.out)
            have k0 := hT.out.c0
            have k1 := hT.out.c1
            have k2 := hT.out.c2
            clear hO
            go_wp2_with (at_builtin; refine wpList_append_recs moveRow mEnc_len mEnc_one rfl _ _ rfl w2.heap.size A2 c2 (tk k out) rfl (hOc.out.alloc _).own _ 1 [(a, b, p)] rfl (recs_mv _ (a, b, p) _) (by have := htl.out; simp only [List.length_cons, List.length_nil]; omega) (hOc.out.alloc _).size ?_; intro A3 c3 w6 hown hg _; rw [hsu.out] at hown ⊢; have hO' := Lib.hid ((hOc.out.alloc _).app hown hg); clear hown hg)
            go_roundw
            case rel =>
              refine ⟨k + 1, A3, c3, by omega, by go_num, rfl, fun j m' hj hm' => ?_, hO'.out⟩
              by_cases hjk : j < k
              · exact hgood.out j m' hjk hm'
              · obtain rfl : j = k := by omega
                rw [ht.out] at hm'
                rw [← Option.some.inj hm']
                exact hok.out
            case measure => simp [intOf]; omega
      · obtain rfl : k = ws.length := by omega
        have htk : tk ws.length out = out := List.take_of_length_le (by rw [hol.out]; exact Nat.le_refl _)
        rw [htk] at hO ⊢
        have hRw : Hid (RecAt mEnc 3 wr wr.heap.size A2 out) := RecAt.of_own mEnc_len rfl hO.out.own
        have hRl : Hid (RecAt mEnc 3 wr wr.heap.size A out) := (hrec.out.below (Nat.le_refl _) hO.out.below).more hO.out.size
        have hKr : Hid (BK f r w wr) := hK.out.next hO.out.below
        go_wp2_with (first
          | (go_at_call 19; refine (rsame A A2 c c2 out out wr hRl.out hRw.out (by rw [hol.out]; omega) (by rw [hol.out]; omega)).mono ?_; rintro e w8 ⟨rfl, hbw⟩; rw [decide_eq_true rfl]; replace hKr := Lib.hid (hKr.out.next hbw); clear hbw)
          | (go_at_call 11; refine (known_7 _ (hEW.out _ hKr.out.below)).mono ?_; rintro e w9 ⟨rfl, hbw⟩; replace hKr := Lib.hid (hKr.out.next hbw); clear hbw))
        go_ret
        exact ⟨rfl, hKr.out.below⟩
end Go.Proofs.YtlnphcdanadaeaaDoor
