/- Layer 43: Pair of the program, an even number of entrants. -/
import Derived.Test.YtjjjdoealagpcaaDoorGr
import Derived.WalkMore
namespace Go.Proofs.YtjjjdoealagpcaaDoor
open Go Go.RowKit
set_option linter.unusedSimpArgs false
set_option linter.unusedVariables false
attribute [local go_sem ↓] Go.wp_at_zero Go.wp_at_succ
set_option maxRecDepth 100000 in
set_option maxHeartbeats 4000000 in
theorem pPair_yes0 (A : Option Addr) (l : List Ent) (c : Nat) (w : World) (hF : FH w A l c) (hv : okF l) (hl7 : l.length ≤ 7) (hT : TabOK w) (hpar : l.length % 2 = 0) :
    Calls Tryd.prog 13 #[.slice A l.length c] w fun e w' => PairP l e w w' := by
  have hb0 : Hid (Below w.heap.size w (w.alloc (.cells #[.slice none 0 0, .slice none 0 0] 30))) := (Below.refl _ _).alloc (Nat.le_refl _) _
  have hV := Lib.hid (hF.next hb0.out).pvalid
  rw [fB_true hv] at hV
  have hr0 : Hid ((w.alloc (.cells #[.slice none 0 0, .slice none 0 0] 30)).heap[w.heap.size]? = some (.cells #[.slice none 0 0, .slice none 0 0] 30)) := heap_alloc_new w _
  have hlt0 : w.heap.size < (w.alloc (.cells #[.slice none 0 0, .slice none 0 0] 30)).heap.size := by simp
  have hps : Hid (∀ W, Calls Tryd.prog 34 #[.slice A l.length c] W fun e w' => e = .returned (.int .i64 (szE l : Int)) ∧ W = w') := fun W => psize A l c W hF.len
  have htab : Hid (∀ W, Below w.heap.size w W → Calls Tryd.prog 32 #[.slice A l.length c] W fun e w' => PTab l (szE l) e W w') := fun W h => ptable A l c W (hF.next h) hv hl7 (hT.next h)
  have hcol : Hid (∀ W, Below w.heap.size w W → ∀ (a b : Nat) (x y : Ent), l[a]? = some x → l[b]? = some y → Calls Tryd.prog 35 #[.slice A l.length c, .int .i64 (a : Int), .int .i64 (b : Int)] W fun e w' => e = .returned (.tuple #[.int .i64 (whiteI x y a b), .int .i64 (colC x y)]) ∧ Below W.heap.size W w') := fun W h a b x y hx hy => pcolors A l c a b x y W (hF.next h).fld.row hx hy (hv.num x (List.mem_of_getElem? hx)).1 (hv.num y (List.mem_of_getElem? hy)).1 hF.len
  have hcb : Hid (∀ a b, -1 ≤ cst l a b ∧ cst l a b ≤ 100000006) := cst_bd hv.num
  have hz := (zero_of_info zero64).1
  have hi64 := Lib.hid (zero_of_info zero64).2
  obtain ⟨Z, hZ⟩ : ∃ Z, ((List.replicate 156 (0 : Int)).map (Value.int .i64)).toArray = Z := ⟨_, rfl⟩
  rw [hZ] at hz
  have hZs : Hid (Z.size = 156) := by show Z.size = 156; rw [← hZ]; simp
  have hTH := Lib.hid hT
  have hl2 : 2 ≤ l.length := hv.1
  obtain ⟨n, hn⟩ : ∃ n, szE l = n := ⟨_, rfl⟩
  have hnd : Hid (n = l.length + l.length % 2) := by show n = _; rw [← hn]; rfl
  have hn8 : n ≤ 8 := by have := hnd.out; omega
  have hnH := Lib.hid hn
  rw [hn] at hps htab
  clear hF hv hT hZ hn
  go_enter Tryd.func13, Tryd.ntmps13
  go_upto_region 1 with fail
  generalize w.alloc (.cells #[.slice none 0 0, .slice none 0 0] 30) = w0 at *
  go_wp2_with fail
  go_at_call 10
  refine hV.out.mono ?_
  rintro e w1 ⟨rfl, hb1⟩
  replace hr0 : Hid (w1.heap[w.heap.size]? = some (.cells #[.slice none 0 0, .slice none 0 0] 30)) := (hb1.block _ hlt0).trans hr0.out
  replace hlt0 : w.heap.size < w1.heap.size := Nat.lt_of_lt_of_le hlt0 hb1.size
  replace hb1 := Lib.hid (hb0.out.trans (hb1.mono hb0.out.size))
  clear hb0 hV
  clear w0
  go_wp2_with fail
  go_at_call 32
  refine (htab.out _ hb1.out).mono ?_
  rintro e w2 hPT
  obtain ⟨Br, CL, rfl, hBr, hTR, hCO⟩ := hPT.out
  have hb2 := hPT.below
  replace hr0 : Hid (w2.heap[w.heap.size]? = some (.cells #[.slice none 0 0, .slice none 0 0] 30)) := (hb2.block _ hlt0).trans hr0.out
  have hBr2 : w.heap.size < Br := Nat.lt_of_lt_of_le hlt0 hBr
  replace hb2 := Lib.hid (hb1.out.trans (hb2.mono hb1.out.size))
  clear hPT htab hb1 hBr hlt0
  clear w1
  have hTRH := Lib.hid hTR
  have hCOH := Lib.hid hCO
  have hszX : Hid ((Tryd.prog.info? 64).map (·.size) = some (CL.map (Value.int .i64)).toArray.size) := by show _ = _; rw [List.size_toArray, List.length_map, hCO.1]; exact hi64.out
  have hszZ : Hid (Z.size = (CL.map (Value.int .i64)).toArray.size) := by show Z.size = _; rw [show (CL.map (Value.int .i64)).toArray.size = 156 by simp [hCO.1]]; exact hZs.out
  have hCRow : Hid (IRow (w2.alloc (.cells (CL.map (Value.int .i64)).toArray 64)) w2.heap.size 64 CL) := ⟨heap_alloc_new w2 _⟩
  have h1C : Hid (((CL.map (Value.int .i64)).toArray).all (·.oneCell') = true) := ones_i64 CL
  clear hTR hCO hi64 hZs
  obtain ⟨N, hN⟩ : ∃ N, 2 ^ n = N := ⟨_, rfl⟩
  have hN256 : N ≤ 256 := by rw [← hN]; exact full_lt hn8
  have hN1 : 4 ≤ N := by
    have h1 : 2 ^ 2 ≤ 2 ^ n := Nat.pow_le_pow_right (show 2 > 0 by decide) (by have := hnd.out; omega)
    omega
  have hfull : Hid (fullS l = N - 1) := by show _ = _; unfold fullS; rw [hnH.out, hN]
  rw [hN] at hTRH ⊢
  generalize hCV : (CL.map (Value.int .i64)).toArray = CV at *
  go_upto_region 4 with (first | (refine wpList_store_row rfl 64 _ _ rfl w2.heap.size CV rfl rfl 64 Z (heap_alloc_new w2 _) hszX.out hszZ.out h1C.out ?_; rw [World.setRow_alloc_new]))
  have hb3 : Hid (Below w2.heap.size w2 (w2.alloc (.cells CV 64))) := (Below.refl _ _).alloc (Nat.le_refl _) _
  have hbc : Br < w2.heap.size := hTRH.out.lt
  have hTR3 := Lib.hid (hTRH.out.next hb3.out)
  have hr3 : Hid ((w2.alloc (.cells CV 64)).heap[w.heap.size]? = some (.cells #[.slice none 0 0, .slice none 0 0] 30)) := (hb3.out.block _ (by omega)).trans hr0.out
  have hb4 := Lib.hid (hb2.out.trans (hb3.out.mono hb2.out.size))
  clear hszX hszZ h1C hz hTRH hr0 hb2 hb3 hCV
  generalize hBc : w2.heap.size = Bc at *
  generalize w2.alloc (.cells CV 64) = w3 at *
  clear hBc
  clear w2
  obtain ⟨S, hS⟩ : ∃ S, N - 1 = S := ⟨_, rfl⟩
  have gS : IntKind.i64.wrap ((N : Int) - 1) = (S : Int) := by rw [show (N : Int) - 1 = (S : Int) by omega]; exact i64_nat (by omega)
  have hSN : (S : Int) < (N : Int) := by omega
  have hS0 : (0 : Int) ≤ (S : Int) := Int.natCast_nonneg _
  rw [hS] at hfull
  have hT0 := hTR3.out.cell (tabL_get? (cst l) n (show S < N by omega))
  have hbs : Hid (bst l (fullS l) = bestT (cst l) n S) := by show _ = _; rw [hfull.out]; unfold bst; rw [hnH.out]
  clear hS
  by_cases hno : bestT (cst l) n S = -1
  · rw [hno] at hT0
    have hfin : Hid (bst l (fullS l) = -1) := hbs.out.trans hno
    have hrc0 : w3.cell? ⟨w.heap.size, 0, none⟩ = some (.slice none 0 0) := by rw [cell_of_row _ _ _ _ _ _ hr3.out]; rfl
    have hrc1 : w3.cell? ⟨w.heap.size, 1, none⟩ = some (.slice none 0 0) := by rw [cell_of_row _ _ _ _ _ _ hr3.out]; rfl
    have hrf0 : w3.frozen? ⟨w.heap.size, 0, none⟩ = false := frozen_of_row _ _ _ _ _ hr3.out
    have hrf1 : w3.frozen? ⟨w.heap.size, 1, none⟩ = false := frozen_of_row _ _ _ _ _ hr3.out
    clear hno
    go_wp2_with fail
    refine bodyPost_ret (v := .tuple #[.agg #[.slice none 0 0, .slice none 0 0], .int .i64 9]) (by simp [results, Tryd.results13, go_sem, hrc0, hrc1]) rfl ⟨fun _ => rfl, fun h => absurd hfin.out h, ?_⟩
    exact (hb4.out.setCell (p := ⟨w.heap.size, 0, none⟩) (Nat.le_refl _) _).setCell (p := ⟨w.heap.size, 1, none⟩) (Nat.le_refl _) _
  have hno2 : (bestT (cst l) n S == -1) = false := by rw [beq_eq_false_iff_ne]; exact hno
  have hnoH := Lib.hid hno
  have hmi := fun W => run_make_i W l.length (by omega)
  have hmb := fun W => run_make_b W l.length (by omega)
  clear hno
  go_upto_region 7 with fail
  clear hT0 hno2
  go_cut [7] from 34 to 40 (fun s7 wc => ∃ Bo Bw Bp : Nat, s7 = .pointer (some ⟨Bp, 0, none⟩) ∧ Hid (PA w wc l Br Bc Bo Bw Bp (tabL (cst l) n N) CL (List.replicate l.length 0) (List.replicate l.length false)))
  case first =>
    go_region
    all_goals
      (try go_wp2_with fail)
      go_meet
      first
      | exact ⟨_, _, _, rfl, PA.start hTR3.out hCRow.out hr3.out hb4.out ⟨hBr2, hbc⟩ (h3 w3 _ _ _).1 (h3 w3 _ _ _).2.1 (h3 w3 _ _ _).2.2.1 ((h3 w3 _ _ _).2.2.2.drew) (by refine ⟨?_, ?_, ?_, ?_, ?_, ?_⟩ <;> omega)⟩
      | exact ⟨_, _, _, rfl, PA.start hTR3.out hCRow.out hr3.out hb4.out ⟨hBr2, hbc⟩ (h3 w3 _ _ _).1 (h3 w3 _ _ _).2.2.1 (h3 w3 _ _ _).2.1 ((h3 w3 _ _ _).2.2.2.drew) (by refine ⟨?_, ?_, ?_, ?_, ?_, ?_⟩ <;> omega)⟩
      | exact ⟨_, _, _, rfl, PA.start hTR3.out hCRow.out hr3.out hb4.out ⟨hBr2, hbc⟩ (h3 w3 _ _ _).2.1 (h3 w3 _ _ _).1 (h3 w3 _ _ _).2.2.1 ((h3 w3 _ _ _).2.2.2.drew) (by refine ⟨?_, ?_, ?_, ?_, ?_, ?_⟩ <;> omega)⟩
      | exact ⟨_, _, _, rfl, PA.start hTR3.out hCRow.out hr3.out hb4.out ⟨hBr2, hbc⟩ (h3 w3 _ _ _).2.2.1 (h3 w3 _ _ _).1 (h3 w3 _ _ _).2.1 ((h3 w3 _ _ _).2.2.2.drew) (by refine ⟨?_, ?_, ?_, ?_, ?_, ?_⟩ <;> omega)⟩
      | exact ⟨_, _, _, rfl, PA.start hTR3.out hCRow.out hr3.out hb4.out ⟨hBr2, hbc⟩ (h3 w3 _ _ _).2.1 (h3 w3 _ _ _).2.2.1 (h3 w3 _ _ _).1 ((h3 w3 _ _ _).2.2.2.drew) (by refine ⟨?_, ?_, ?_, ?_, ?_, ?_⟩ <;> omega)⟩
      | exact ⟨_, _, _, rfl, PA.start hTR3.out hCRow.out hr3.out hb4.out ⟨hBr2, hbc⟩ (h3 w3 _ _ _).2.2.1 (h3 w3 _ _ _).2.1 (h3 w3 _ _ _).1 ((h3 w3 _ _ _).2.2.2.drew) (by refine ⟨?_, ?_, ?_, ?_, ?_, ?_⟩ <;> omega)⟩
  case rest =>
    obtain ⟨Bo, Bw, Bp, rfl, hPA⟩ := hcut
    have hno4 : Hid (bst l (fullS l) ≠ -1) := by rw [hbs.out]; exact hnoH.out
    have hbT : Hid (bst l = bestT (cst l) n) := by show bst l = _; unfold bst; rw [hnH.out]
    clear hTR3 hr3 hb4 hCRow hmi hmb hBr2 hbc
    have hstart : Hid (resO l = (pickL (cst l) (bestT (cst l) n) l.length S S).foldl (putO l.length) (List.replicate l.length 0)) := by
      show resO l = _
      unfold resO pairsL
      rw [hfull.out, hbT.out]
    have hstartW : Hid (resW l = (pickL (cst l) (bestT (cst l) n) l.length S S).foldl (putW l) (List.replicate l.length false)) := by
      show resW l = _
      unfold resW pairsL
      rw [hfull.out, hbT.out]
    clear hfull
    clear w3
    go_wp2_with fail
    go_loopw [6] (fun s6 wr => ∃ (s k : Nat) (O : List Int) (Wt : List Bool), s6 = .int .i64 (s : Int) ∧ s < N ∧ s ≤ k ∧ Hid (bestT (cst l) n s ≠ -1) ∧ O.length = l.length ∧ Wt.length = l.length ∧ Hid (resO l = (pickL (cst l) (bestT (cst l) n) l.length k s).foldl (putO l.length) O) ∧ Hid (resW l = (pickL (cst l) (bestT (cst l) n) l.length k s).foldl (putW l) Wt) ∧ PA w wr l Br Bc Bo Bw Bp (tabL (cst l) n N) CL O Wt) (fun s6 _ => (intOf s6).toNat)
    case atStart => exact ⟨S, S, _, _, rfl, by omega, Nat.le_refl _, hnoH, List.length_replicate, List.length_replicate, hstart, hstartW, hPA.out⟩
    case round =>
      clear hPA hstart hstartW hnoH
      obtain ⟨s, k, O, Wt, rfl, hsN, hsk, hbs1, hOl, hWl, hrO, hrW, hPA⟩ := hrel
      replace hPA := Lib.hid hPA
      by_cases h0 : s = 0
      · have hsz : ((s : Int) != 0) = false := by rw [bne_eq_false_iff_eq]; omega
        have hrO2 : Hid (resO l = O) := by
          have := hrO.out
          rw [h0, pickL_zero] at this
          exact this
        have hrW2 : Hid (resW l = Wt) := by
          have := hrW.out
          rw [h0, pickL_zero] at this
          exact this
        have hp0 : wr.cell? ⟨Bp, 0, none⟩ = some (.slice (some ⟨Bo, 0, none⟩) l.length l.length) := by rw [cell_of_row _ _ _ _ _ _ hPA.out.p]; rfl
        have hp1 : wr.cell? ⟨Bp, 1, none⟩ = some (.slice (some ⟨Bw, 0, none⟩) l.length l.length) := by rw [cell_of_row _ _ _ _ _ _ hPA.out.p]; rfl
        have hrc0 : wr.cell? ⟨w.heap.size, 0, none⟩ = some (.slice none 0 0) := by rw [cell_of_row _ _ _ _ _ _ hPA.out.r]; rfl
        have hrc1 : wr.cell? ⟨w.heap.size, 1, none⟩ = some (.slice none 0 0) := by rw [cell_of_row _ _ _ _ _ _ hPA.out.r]; rfl
        have hrf0 : wr.frozen? ⟨w.heap.size, 0, none⟩ = false := frozen_of_row _ _ _ _ _ hPA.out.r
        have hrf1 : wr.frozen? ⟨w.heap.size, 1, none⟩ = false := frozen_of_row _ _ _ _ _ hPA.out.r
        have hdd := hPA.out.d
        have hno3 : Hid (bst l (fullS l) ≠ -1) := hno4
        clear hrO hrW h0 hbs1
        go_wp2_with fail
        refine bodyPost_ret (v := .tuple #[.agg #[.slice (some ⟨Bo, 0, none⟩) l.length l.length, .slice (some ⟨Bw, 0, none⟩) l.length l.length], .int .i64 0]) (by simp [results, Tryd.results13, go_sem, hrc0, hrc1]) rfl ⟨fun h => absurd h hno3.out, fun _ => ⟨Bo, Bw, rfl, ?_, ?_⟩, ?_⟩
        · rw [hrO2.out]
          exact (hPA.out.o.other (a := ⟨w.heap.size, 0, none⟩) (by show Bo ≠ w.heap.size; omega) _).other (a := ⟨w.heap.size, 1, none⟩) (by show Bo ≠ w.heap.size; omega) _
        · rw [hrW2.out]
          exact (hPA.out.v.other (a := ⟨w.heap.size, 0, none⟩) (by show Bw ≠ w.heap.size; omega) _).other (a := ⟨w.heap.size, 1, none⟩) (by show Bw ≠ w.heap.size; omega) _
        · exact (hPA.out.below.setCell (p := ⟨w.heap.size, 0, none⟩) (Nat.le_refl _) _).setCell (p := ⟨w.heap.size, 1, none⟩) (Nat.le_refl _) _
      obtain ⟨k, rfl⟩ : ∃ k', k = k' + 1 := ⟨k - 1, by omega⟩
      have hs256 : s < 256 := by omega
      obtain ⟨l1, l2, l3⟩ := low_in hs256 h0
      obtain ⟨jj, hjj⟩ := pickJ_some hnd.out hn8 (show s < 2 ^ n by omega) h0 hbs1.out
      have hlow := low_lt hn8 (show s < 2 ^ n by omega) h0 hbs1.out
      have hrO1 : Hid (∀ j, pickJ (cst l) (bestT (cst l) n) l.length s = some j → resO l = (pickL (cst l) (bestT (cst l) n) l.length k (restN s (lowE s) j)).foldl (putO l.length) (putO l.length O (lowE s, j))) := by
        intro j hj
        have := hrO.out
        unfold pickL at this
        rw [if_neg h0, hj] at this
        exact this
      have hrW1 : Hid (∀ j, pickJ (cst l) (bestT (cst l) n) l.length s = some j → resW l = (pickL (cst l) (bestT (cst l) n) l.length k (restN s (lowE s) j)).foldl (putW l) (putW l Wt (lowE s, j))) := by
        intro j hj
        have := hrW.out
        unfold pickL at this
        rw [if_neg h0, hj] at this
        exact this
      have hpick : Hid (pickJ (cst l) (bestT (cst l) n) l.length s = some jj) := hjj
      have hfnd : Hid (pickJ (cst l) (bestT (cst l) n) l.length s = (ordL l.length (lowE s)).find? (okJ (cst l) (bestT (cst l) n) s (lowE s))) := rfl
      have hT4 : Hid (TabOK wr) := hTH.out.next hPA.out.below
      have hpz : Hid (Calls Tryd.prog 33 #[.int .u64 (s : Int)] wr fun e w' => e = .returned (.int .i64 (lowE s : Int)) ∧ wr = w') := ptz s _ (by omega) (by omega) hT4.out
      have gu : IntKind.u64.wrap (s : Int) = (s : Int) := by rw [IntKind.wrap_u64]; omega
      have hsz : ((s : Int) != 0) = true := by rw [bne_iff_ne]; omega
      clear hrO hrW hjj h0 hT4
      generalize lowE s = i at *
      obtain ⟨m, hm⟩ : ∃ m, n - 1 = m := ⟨_, rfl⟩
      have hilen : i < l.length := by have := hnd.out; omega
      have gm : IntKind.i64.wrap ((n : Int) - 1) = (m : Int) := by rw [show (n : Int) - 1 = (m : Int) by omega]; exact i64_nat (by omega)
      have gi : IntKind.i64.wrap ((i : Int) + 1) = ((i + 1 : Nat) : Int) := by rw [show (i : Int) + 1 = ((i + 1 : Nat) : Int) by omega]; exact i64_nat (by omega)
      have hO1 := Lib.hid (O1.one wr (m : Int))
      have hps2 : Hid (∀ W, Calls Tryd.prog 34 #[.slice A l.length c] W fun e w' => e = .returned (.int .i64 (n : Int)) ∧ W = w') := hps
      go_wp2_with fail
      go_step3
      go_wp2_with (first | (go_at_call 33; refine hpz.out.mono ?_; rintro e w' ⟨rfl, rfl⟩) | (go_at_call 34; refine (hps.out _).mono ?_; rintro e w' ⟨rfl, rfl⟩))
      clear hpz gu hsz
      generalize hw4 : wr.alloc (.cells #[.int .i64 (m : Int)] 3) = w5 at *
      clear hw4
      generalize hw4 : wr = w4 at *
      clear hw4
      clear wr
      go_loopw [9, 10] (fun s9 s10 wr => ∃ (d : Nat) (Ao : Option Addr) (co : Nat), s9 = .slice Ao (preL m i d).length co ∧ s10 = .int .i64 ((i + 1 + d : Nat) : Int) ∧ i + 1 + d ≤ m + 1 ∧ (d = 0 ∨ i + 1 + d ≤ m) ∧ Hid (O1 iEnc 1 w4.heap.size 3 w4 wr Ao co (preL m i d))) (fun _ s10 _ => m + 2 - (intOf s10).toNat)
      case atStart => exact ⟨0, _, _, rfl, by go_num, by omega, Or.inl rfl, hO1⟩
      case round =>
        clear hO1
        obtain ⟨d, Ao, co, rfl, rfl, hd1, hd2, hO⟩ := hrel
        have hsu := Lib.hid (preL_succ m i d)
        have hln := Lib.hid (preL_len m i d)
        by_cases hdm : i + 1 + d < m
        · obtain ⟨J, hJ⟩ : ∃ J, i + 1 + d = J := ⟨_, rfl⟩
          have hJ2 : Hid (i + 1 + (d + 1) = J + 1) := by show _ = _; omega
          rw [hJ] at hdm hsu ⊢
          have hJI : (J : Int) < (m : Int) := by omega
          have gJ : IntKind.i64.wrap ((J : Int) + 1) = ((J + 1 : Nat) : Int) := by rw [show (J : Int) + 1 = ((J + 1 : Nat) : Int) by omega]; exact i64_nat (by omega)
          go_wp2_with (first | (go_at_call 34; refine (hps.out _).mono ?_; rintro e w' ⟨rfl, rfl⟩) | (at_builtin; refine wpList_append_recs intRow iEnc_len iEnc_one rfl _ _ rfl w4.heap.size Ao co (preL m i d) rfl (hO.out.alloc _).own _ 1 [(J : Int)] rfl (recs_one (fun _ => rfl) _ _ _) (by have := hln.out; simp; omega) (hO.out.alloc _).size ?_; intro A' c' w' hown hg _; rw [hsu.out] at hown ⊢; have hO' := Lib.hid ((hO.out.alloc _).app hown hg); clear hown hg))
          go_roundw
          case rel => exact ⟨d + 1, A', c', rfl, by rw [hJ2.out]; go_num, by omega, Or.inr (by omega), hO'⟩
          case measure => simp [intOf]; omega
        have hge : ¬ ((i + 1 + d : Nat) : Int) < (m : Int) := by omega
        have ht := tmod_two l.length
        have hw0 : IntKind.i64.wrap ((l.length % 2 : Nat) : Int) = ((l.length % 2 : Nat) : Int) := IntWalk.i64_in _ (by omega)
        rw [hpar] at ht hw0
        have hdm2 : d = m - (i + 1) := by omega
        have hml : m = l.length - 1 := by have := hnd.out; omega
        have hi1 : i + 1 < l.length := by have := hnd.out; omega
        have hpre : ((List.range' (i + 1) d).map fun q : Nat => (q : Int)) ++ [(m : Int)] = ordI l.length i := by rw [hdm2, hml]; exact ordI_even hpar hi1
        obtain ⟨TLs, hTLs⟩ : ∃ t, ((List.range' (i + 1) d).map fun q : Nat => (q : Int)) = t := ⟨_, rfl⟩
        have htl : TLs.length = d := by rw [← hTLs]; simp
        have hpl : preL m i d = (m : Int) :: TLs := by unfold preL; rw [hTLs]
        rw [hTLs] at hpre
        rw [hpl] at hO ⊢
        obtain ⟨hol, hor⟩ := hO.out.own
        obtain ⟨g, cap, cur, hcv, hgb, hgr, hncap, hcapm, hcsz, htake⟩ : ∃ g cap cur, Value.slice Ao ((m : Int) :: TLs).length co = .slice (some ⟨g, 0, none⟩) ((m : Int) :: TLs).length cap ∧ w4.heap.size ≤ g ∧ wr.heap[g]? = some (.cells cur 3 (0, 0)) ∧ ((m : Int) :: TLs).length ≤ cap ∧ cap ≤ maxLen ∧ cur.size = cap * 1 ∧ cur.toList.take (((m : Int) :: TLs).length * 1) = flatR iEnc ((m : Int) :: TLs) := by
          rcases hor with ⟨_, h0⟩ | ⟨g, cap, cur, h1, h2, h3, h4, h5, h6, h7⟩
          · simp at h0
          · exact ⟨g, cap, cur, h1, h2, h3, h4, h5, h6, h7⟩
        simp only [Value.slice.injEq, true_and] at hcv
        obtain ⟨rfl, rfl⟩ := hcv
        have hlen1 : ((m : Int) :: TLs).length = d + 1 := by simp [htl]
        rw [hlen1] at hncap htake ⊢
        have hat : ∀ (k : Nat) (y : Int), TLs[k]? = some y → cur[1 + k]? = some (Value.int .i64 y) := by
          intro k y hy
          have hk : k < d := by rw [← htl]; exact (List.getElem?_eq_some_iff.1 hy).1
          have h1 : (cur.toList.take ((d + 1) * 1))[1 + k]? = cur.toList[1 + k]? := by rw [List.getElem?_take, if_pos (by omega)]
          rw [htake, flat1 (f := iEnc) (g := Value.int .i64) (fun _ => rfl)] at h1
          rw [← Array.getElem?_toList, ← h1, Nat.add_comm 1 k, List.map_cons, List.getElem?_cons_succ, List.getElem?_map, hy]; rfl
        have hgr2 : Hid ((wr.alloc (.cells #[.int .i64 (m : Int)] 3)).heap[g]? = some (.cells cur 3)) := by rw [heap_alloc_old _ _ (Array.getElem?_eq_some_iff.1 hgr).1]; exact hgr
        have hbA : Hid (Below w4.heap.size w4 (wr.alloc (.cells #[.int .i64 (m : Int)] 3))) := hO.out.below.alloc hO.out.size _
        have hszA : Hid (w4.heap.size ≤ (wr.alloc (.cells #[.int .i64 (m : Int)] 3)).heap.size) := Nat.le_trans hO.out.size (by simp)
        have hcellA : Hid ((wr.alloc (.cells #[.int .i64 (m : Int)] 3)).cell? ⟨wr.heap.size, 0, none⟩ = some (.int .i64 (m : Int))) := by rw [cell_of_row _ _ _ _ _ _ (heap_alloc_new wr _)]; rfl
        have hpreH := Lib.hid hpre
        have htlH := Lib.hid htl
        have hd1I : (1 : Int) ≤ (d : Int) + 1 := by omega
        obtain ⟨off, hoff, hoc, hato⟩ : ∃ off, (if co = 1 then (some ⟨g, 0, none⟩ : Option Addr) else some ⟨g, 1, none⟩) = some ⟨g, off, none⟩ ∧ off + (co - 1) ≤ cur.size ∧ ∀ (k : Nat) (y : Int), TLs[k]? = some y → cur[off + k]? = some (Value.int .i64 y) := by
          by_cases hco : co = 1
          · refine ⟨0, by rw [if_pos hco], by omega, fun k y hy => ?_⟩
            have := (List.getElem?_eq_some_iff.1 hy).1
            omega
          · exact ⟨1, by rw [if_neg hco], by omega, hat⟩
        have hato := Lib.hid hato
        have hocH := Lib.hid hoc
        have hcszH := Lib.hid hcsz
        replace hdm2 := Lib.hid hdm2
        replace hml := Lib.hid hml
        clear hol hor htake hat hpre hTLs hpl hgr hlen1 htl hoc hcsz
        go_wp2_with (first | (go_at_call 34; refine (hps.out _).mono ?_; rintro e w' ⟨rfl, rfl⟩))
        refine wp_region_held_drew (S := fun W => True) (by kernel_rfl) trivial (fun hHeld => ?_)
        refine wpAnyH_take (i := 0) (v := ?_) rfl (by kernel_rfl) (by kernel_rfl) (by kernel_rfl) (fun _ _ _ h => h) (Or.inl ⟨by rfl, ?_⟩) hHeld ?_
        rotate_left
        · intro W9 hSw; (try dsimp only at hSw); go_simp; (try with_reducible rfl)
        simp only [Act.put, List.getElem_toArray, List.getElem_cons_zero, List.getElem_cons_succ, List.setIfInBounds_toArray, List.set_cons_zero, List.set_cons_succ]
        refine wpAnyH_take (i := 1) (v := ?_) rfl (by kernel_rfl) (by kernel_rfl) (by kernel_rfl) (fun _ _ _ h => h) (Or.inl ⟨by rfl, ?_⟩) hHeld ?_
        rotate_left
        · intro W9 hSw; (try dsimp only at hSw); go_simp; (try with_reducible rfl)
        simp only [Act.put, List.getElem_toArray, List.getElem_cons_zero, List.getElem_cons_succ, List.setIfInBounds_toArray, List.set_cons_zero, List.set_cons_succ]
        refine wpAnyH_take (i := 2) (v := ?_) rfl (by kernel_rfl) (by kernel_rfl) (by kernel_rfl) (fun _ _ _ h => h) (Or.inl ⟨by rfl, ?_⟩) hHeld ?_
        rotate_left
        · intro W9 hSw; (try dsimp only at hSw); go_simp; (try with_reducible rfl)
        simp only [Act.put, List.getElem_toArray, List.getElem_cons_zero, List.getElem_cons_succ, List.setIfInBounds_toArray, List.set_cons_zero, List.set_cons_succ]
        refine wpAnyH_ready (rs := [3]) (by kernel_rfl) (by simp) ?_
        refine AllReadyH.cons rfl (fun K hK => ?_) AllReadyH.nil
        go_simp
        go_at_call 34
        refine (hps.out _).mono ?_
        rintro e w' ⟨rfl, rfl⟩
        refine hK.out _ _ (trivial) (fun hHeld2 => ?_)
        clear hK K hHeld
        have hHeld := hHeld2
        clear hHeld2
        refine wpAnyH_take (i := 4) (v := ?_) rfl (by kernel_rfl) (by kernel_rfl) (by kernel_rfl) (fun _ _ _ h => h) (Or.inl ⟨by rfl, ?_⟩) hHeld ?_
        rotate_left
        · intro W9 hSw; (try dsimp only at hSw); go_simp; (try with_reducible rfl)
        simp only [Act.put, List.getElem_toArray, List.getElem_cons_zero, List.getElem_cons_succ, List.setIfInBounds_toArray, List.set_cons_zero, List.set_cons_succ]
        refine wpAnyH_ready (rs := [5]) (by kernel_rfl) (by simp) ?_
        refine AllReadyH.cons rfl (fun K hK => ?_) AllReadyH.nil
        go_simp
        refine hK.out _ _ (trivial) (fun hHeld2 => ?_)
        clear hK K hHeld
        have hHeld := hHeld2
        clear hHeld2
        refine wpAnyH_ready (rs := [6]) (by kernel_rfl) (by simp) ?_
        refine AllReadyH.cons rfl (fun K hK => ?_) AllReadyH.nil
        refine step_app1 rfl _ _ rfl g off d (co - 1) TLs (m : Int) wr.heap.size 0 1 cur (show _ from hgr2.out) hocH.out htlH.out (by omega) (by omega) hato.out hcellA.out rfl rfl ?_
        intro A6 c6 w6 hR6 hg6
        simp only [Act.put, List.getElem_toArray, List.getElem_cons_zero, List.getElem_cons_succ, List.setIfInBounds_toArray, List.set_cons_zero, List.set_cons_succ]
        rw [hpreH.out] at hR6 ⊢
        have hb6 : Hid (Below w4.heap.size w4 w6) := (hbA.out.drew).grown hg6 hszA.out (fun k hk => by cases hk; exact hgb)
        have hPA6 := Lib.hid (hPA.out.next hb6.out)
        replace hR6 := Lib.hid hR6
        refine hK.out _ _ trivial (fun hHeld2 => ?_)
        clear hK K hHeld
        have hHeld := hHeld2
        clear hHeld2
        clear hg6 hb6 hPA
        refine wpAnyH_take (i := 7) (v := ?_) rfl (by kernel_rfl) (by kernel_rfl) (by kernel_rfl) (fun _ _ _ h => h) (Or.inl ⟨by rfl, ?_⟩) hHeld ?_
        rotate_left
        · intro W9 hSw; (try dsimp only at hSw); go_simp; (try with_reducible rfl)
        simp only [Act.put, List.getElem_toArray, List.getElem_cons_zero, List.getElem_cons_succ, List.setIfInBounds_toArray, List.set_cons_zero, List.set_cons_succ]
        refine wpAnyH_done (by kernel_rfl) ?_ _
        clear hgr2 hbA hszA hcellA hato hpreH htlH hoff
        clear hHeld
        go_wp2_with fail
        clear hO hps hps2 hge hln hsu ht hw0 gm gi hd1 hd2 hdm2 hdm
        go_step3
        go_wp2_with fail
        go_loopw [6, 76] (fun s6 s76 wr => ∃ q : Nat, q ≤ (ordI l.length i).length ∧ s6 = .int .i64 (s : Int) ∧ s76 = .int .i64 (q : Int) ∧ Hid (∀ (k y : Nat), k < q → (ordL l.length i)[k]? = some y → okJ (cst l) (bestT (cst l) n) s i y = false) ∧ Below w6.heap.size w6 wr) (fun _ s76 _ => (ordI l.length i).length - (intOf s76).toNat)
        case atStart => exact ⟨0, Nat.zero_le _, rfl, rfl, fun k y hk => absurd hk (Nat.not_lt_zero _), Below.refl _ _⟩
        case round =>
          obtain ⟨q, hq, rfl, rfl, hnoq, hb⟩ := hrel
          have hPA7 := Lib.hid (hPA6.out.next hb)
          have hR7 : Hid (RecAt iEnc 1 wr wr.heap.size A6 (ordI l.length i)) := (hR6.out.below (Nat.le_refl _) hb).more hb.size
          have hb7 := Lib.hid hb
          clear hb
          by_cases hql : q < (ordI l.length i).length
          rotate_left
          · exfalso
            have h1 := hpick.out
            rw [hfnd.out] at h1
            obtain ⟨kk, hkk, e⟩ := List.getElem_of_mem (List.mem_of_find?_eq_some h1)
            have h2 := hnoq.out kk jj (by rw [← ordI_len] at hkk; omega) (by rw [List.getElem?_eq_getElem hkk, e])
            rw [List.find?_some h1] at h2
            cases h2
          obtain ⟨j, hj⟩ : ∃ j, (ordL l.length i)[q]? = some j := ⟨_, List.getElem?_eq_getElem (by rw [← ordI_len]; exact hql)⟩
          have hjI : (ordI l.length i)[q]? = some (j : Int) := by unfold ordI; rw [List.getElem?_map, hj]; rfl
          have hjm := mem_ordL hilen (List.mem_of_getElem? hj)
          have hjn2 : j < n := by have := hnd.out; omega
          obtain ⟨ba, oa, hA6, hba, ma⟩ := rec1 hR7.out hjI
          have hqI : (q : Int) < ((ordI l.length i).length : Int) := by omega
          have hq0 : (0 : Int) ≤ (q : Int) := Int.natCast_nonneg _
          have gq : IntKind.i64.wrap ((q : Int) + 1) = ((q + 1 : Nat) : Int) := by rw [show (q : Int) + 1 = ((q + 1 : Nat) : Int) by omega]; exact i64_nat (by have h1 := ordI_len l.length i; have h2 := ordL_len hilen; omega)
          have hjH := Lib.hid hj
          have hnew : Hid (okJ (cst l) (bestT (cst l) n) s i j = false → ∀ (k y : Nat), k < q + 1 → (ordL l.length i)[k]? = some y → okJ (cst l) (bestT (cst l) n) s i y = false) := fun hf k y hk hy => by
            by_cases hkq : k < q
            · exact hnoq.out k y hkq hy
            · obtain rfl : k = q := by omega
              rw [hjH.out] at hy
              rw [← Option.some.inj hy]; exact hf
          have hhit : Hid (okJ (cst l) (bestT (cst l) n) s i j = true → pickJ (cst l) (bestT (cst l) n) l.length s = some j) := fun hf => by
            rw [hfnd.out]
            exact find_first hjH.out hf hnoq.out
          subst hA6
          clear hj hjI hba hnoq hR7
          have p1 : 2 ^ i < 256 := Nat.lt_of_lt_of_le (Nat.pow_lt_pow_right (by decide) (show i < 8 by omega)) (by decide)
          have p2 : 2 ^ j < 256 := Nat.lt_of_lt_of_le (Nat.pow_lt_pow_right (by decide) (show j < 8 by omega)) (by decide)
          obtain ⟨R, hR⟩ : ∃ R, s &&& (18446744073709551615 - (2 ^ i ||| 2 ^ j)) = R := ⟨_, rfl⟩
          have hRe : Hid (s.testBit j = true → R = restN s i j ∧ restN s i j < s) := fun hb => by
            obtain ⟨r1, r2, _⟩ := rest_eq hs256 (by omega) (by omega) (by omega) l1 hb
            exact ⟨by rw [← hR, r1], r2⟩
          obtain ⟨pp, hp⟩ : ∃ p, 2 ^ i = p := ⟨_, rfl⟩
          obtain ⟨qq, hqq⟩ : ∃ q, 2 ^ j = q := ⟨_, rfl⟩
          have g1 : IntKind.i64.wrap (2 ^ i) = (pp : Int) := by
            have e : ((2 : Int) ^ i) = (pp : Int) := by rw [← hp, Int.natCast_pow]; rfl
            rw [e]; exact i64_nat (by omega)
          have g2 : IntKind.i64.wrap (2 ^ j) = (qq : Int) := by
            have e : ((2 : Int) ^ j) = (qq : Int) := by rw [← hqq, Int.natCast_pow]; rfl
            rw [e]; exact i64_nat (by omega)
          rw [hp, hqq] at hR
          have g3 : bits BinOp.or IntKind.i64 (pp : Int) (qq : Int) = ((pp ||| qq : Nat) : Int) := bits_or_i64_nat _ _ (by omega) (by omega)
          have h4 : pp ||| qq < 2 ^ 8 := Nat.or_lt_two_pow (by omega) (by omega)
          have g4 : bits BinOp.andNot IntKind.i64 (s : Int) ((pp ||| qq : Nat) : Int) = (R : Int) := by rw [bits_andNot_i64_nat _ _ (by omega) (by omega), hR]
          clear hR hp hqq p1 p2
          generalize pp ||| qq = oo at *
          have hdp := div_pow s j
          have hbt := bit_of s j
          obtain ⟨u, hu⟩ : ∃ u, s / 2 ^ j = u := ⟨_, rfl⟩
          have hus : u ≤ s := by rw [← hu]; exact Nat.div_le_self _ _
          rw [hu] at hdp hbt
          have hbaa := bit_and u (by omega)
          have i0 : (0 : Int) ≤ (i : Int) := Int.natCast_nonneg _
          have i12 : (i : Int) < 12 := by omega
          have i64 : (i : Int) ≤ 64 := by omega
          have j0 : (0 : Int) ≤ (j : Int) := Int.natCast_nonneg _
          have j13 : (j : Int) < 13 := by omega
          have j64 : (j : Int) ≤ 64 := by omega
          have s00 : (0 : Int) ≤ (s : Int) := Int.natCast_nonneg _
          have sN : (s : Int) < (N : Int) := by omega
          clear hu h4
          by_cases hu1 : u % 2 = 1
          rotate_left
          · have hu0 : u % 2 = 0 := by omega
            rw [hu0] at hbaa
            have bj : s.testBit j = false := by rw [hbt]; exact decide_eq_false hu1
            have hnx := Lib.hid (hnew.out (by unfold okJ; rw [bj]; rfl))
            clear hu1 hbt bj hnew hhit hRe
            as_aux_lemma =>
              go_wp2_with fail
              go_quiet (fail)
              go_wp2_with fail
              go_quiet (fail)
              go_wp2_with fail
              go_roundw
              case rel => exact ⟨q + 1, by omega, rfl, by go_num, hnx, below_drewN hb7.out _⟩
              case measure => simp [intOf]; omega
          rw [hu1] at hbaa
          have bj : s.testBit j = true := by rw [hbt]; exact decide_eq_true hu1
          obtain ⟨hRe1, hRe2⟩ := hRe.out bj
          have hji : ((j : Int) == (i : Int)) = false := by rw [beq_eq_false_iff_ne]; omega
          have hcc : CL[i * 13 + j]? = some (cst l i j) := hCOH.out.2 i j (Or.inl hilen) hjm.1 hjn2
          have c1 := hPA7.out.c.cell hcc
          have c2 := hPA7.out.t.cell (tabL_get? (cst l) n (show restN s i j < N by omega))
          have c3 := hPA7.out.t.cell (tabL_get? (cst l) n hsN)
          rw [← hRe1] at c2 hRe2
          have hok : okJ (cst l) (bestT (cst l) n) s i j = ((cst l i j != -1) && (bestT (cst l) n R != -1) && (cst l i j + bestT (cst l) n R == bestT (cst l) n s)) := by unfold okJ; rw [bj, ← hRe1]; rfl
          have hokH := Lib.hid hok
          have hKb := hcb.out i j
          have hRb := bestT_bd hcb.out n R (by omega)
          have hbR : Hid (bestT (cst l) n (restN s i j) = bestT (cst l) n R) := by show _ = _; rw [hRe1]
          have hRsH : Hid (R = restN s i j) := hRe1
          have R0 : (0 : Int) ≤ (R : Int) := Int.natCast_nonneg _
          have RN : (R : Int) < (N : Int) := by omega
          clear hu1 hbt bj hcc hok hRe hRe1
          generalize cst l i j = K at *
          generalize bestT (cst l) n R = X at *
          generalize bestT (cst l) n s = M at *
          have gK : IntKind.i64.wrap (K + X) = K + X := IntWalk.i64_in _ (by omega)
          by_cases k1 : K = -1
          · have t1 : (K == -1) = true := by rw [beq_iff_eq]; exact k1
            have hnx := Lib.hid (hnew.out (by rw [hokH.out, k1]; rfl))
            clear k1 hnew hhit hokH
            as_aux_lemma =>
              go_wp2_with fail
              go_quiet (fail)
              go_wp2_with fail
              go_quiet (fail)
              go_wp2_with fail
              go_roundw
              case rel => exact ⟨q + 1, by omega, rfl, by go_num, hnx, below_drewN hb7.out _⟩
              case measure => simp [intOf]; omega
          have t1 : (K == -1) = false := by rw [beq_eq_false_iff_ne]; exact k1
          have u1 : (K != -1) = true := by rw [bne_iff_ne]; exact k1
          by_cases k2 : X = -1
          · have t2 : (X == -1) = true := by rw [beq_iff_eq]; exact k2
            have hnx := Lib.hid (hnew.out (by rw [hokH.out, k2, u1]; rfl))
            clear k1 k2 u1 hnew hhit hokH
            as_aux_lemma =>
              go_wp2_with fail
              go_quiet (fail)
              go_wp2_with fail
              go_quiet (fail)
              go_wp2_with fail
              go_roundw
              case rel => exact ⟨q + 1, by omega, rfl, by go_num, hnx, below_drewN hb7.out _⟩
              case measure => simp [intOf]; omega
          have t2 : (X == -1) = false := by rw [beq_eq_false_iff_ne]; exact k2
          have u2 : (X != -1) = true := by rw [bne_iff_ne]; exact k2
          by_cases k3 : K + X = M
          rotate_left
          · have t3 : (K + X != M) = true := by rw [bne_iff_ne]; exact k3
            have hnx := Lib.hid (hnew.out (by rw [hokH.out, u1, u2, beq_eq_false_iff_ne.2 k3]; rfl))
            clear k1 k2 k3 u1 u2 hnew hhit hokH
            as_aux_lemma =>
              go_wp2_with fail
              go_quiet (fail)
              go_wp2_with fail
              go_quiet (fail)
              go_wp2_with fail
              go_roundw
              case rel => exact ⟨q + 1, by omega, rfl, by go_num, hnx, below_drewN hb7.out _⟩
              case measure => simp [intOf]; omega
          have t3 : (K + X != M) = false := by rw [bne_eq_false_iff_eq]; exact k3
          have hpj := hhit.out (by rw [hokH.out, u1, u2, beq_iff_eq.2 k3]; rfl)
          have hX : Hid (bestT (cst l) n (restN s i j) ≠ -1) := by rw [hbR.out]; exact k2
          have hfO := Lib.hid (hrO1.out j hpj)
          have hfW := Lib.hid (hrW1.out j hpj)
          clear k1 k2 k3 u1 u2 hnew hhit hokH hrO1 hrW1 hpj
          have hp0 : wr.cell? ⟨Bp, 0, none⟩ = some (.slice (some ⟨Bo, 0, none⟩) l.length l.length) := by rw [cell_of_row _ _ _ _ _ _ hPA7.out.p]; rfl
          have hp1 : wr.cell? ⟨Bp, 1, none⟩ = some (.slice (some ⟨Bw, 0, none⟩) l.length l.length) := by rw [cell_of_row _ _ _ _ _ _ hPA7.out.p]; rfl
          have hilI : (i : Int) < (l.length : Int) := by omega
          obtain ⟨oi, hoi⟩ : ∃ v, O[i]? = some v := ⟨_, List.getElem?_eq_getElem (by omega)⟩
          have ho1 := hPA7.out.o.cell hoi
          have ho2 := hPA7.out.o.fr i
          clear hoi
          by_cases hjl : j = l.length
          · have hjl2 : ((j : Int) == (l.length : Int)) = true := by rw [beq_iff_eq]; omega
            have hfO2 : Hid (resO l = (pickL (cst l) (bestT (cst l) n) l.length k R).foldl (putO l.length) (O.set i (-1))) := by
              show resO l = _
              rw [hfO.out, ← hRsH.out]
              unfold putO
              rw [if_pos hjl]
            have hfW2 : Hid (resW l = (pickL (cst l) (bestT (cst l) n) l.length k R).foldl (putW l) Wt) := by
              show resW l = _
              rw [hfW.out, ← hRsH.out]
              unfold putW
              rw [if_pos hjl]
            have hPA8 := Lib.hid (hPA7.out.setO i (-1))
            have hXR : Hid (bestT (cst l) n R ≠ -1) := by rw [hRsH.out]; exact hX.out
            clear hfO hfW hX hjl
            as_aux_lemma =>
              go_wp2_with fail
              go_quiet (fail)
              go_wp2_with fail
              go_quiet (fail)
              go_wp2_with fail
              go_roundw
              case rel => (repeat apply Exists.intro); exact ⟨⟨R, k, _, Wt, rfl, by omega, by omega, hXR, by rw [List.length_set]; exact hOl, hWl, hfO2, hfW2, hPA8.out.drewN _⟩, rfl⟩
              case measure => simp [intOf]; omega
          have hjll : j < l.length := by omega
          have hjl2 : ((j : Int) == (l.length : Int)) = false := by rw [beq_eq_false_iff_ne]; omega
          have hjlI : (j : Int) < (l.length : Int) := by omega
          obtain ⟨xi, hxi⟩ : ∃ v, l[i]? = some v := ⟨_, List.getElem?_eq_getElem hilen⟩
          obtain ⟨xj, hxj⟩ : ∃ v, l[j]? = some v := ⟨_, List.getElem?_eq_getElem hjll⟩
          have hwh : Hid (whI l i j = whiteI xi xj i j) := by show whI l i j = _; unfold whI; rw [en_eq hxi, en_eq hxj]
          have hcl : Hid (∀ W, Below w.heap.size w W → Calls Tryd.prog 35 #[.slice A l.length c, .int .i64 (i : Int), .int .i64 (j : Int)] W fun e w' => e = .returned (.tuple #[.int .i64 (whI l i j), .int .i64 (colC xi xj)]) ∧ Below W.heap.size W w') := fun W h => by rw [hwh.out]; exact hcol.out W h i j xi xj hxi hxj
          have hfO2 : Hid (resO l = (pickL (cst l) (bestT (cst l) n) l.length k R).foldl (putO l.length) ((O.set i (j : Int)).set j (i : Int))) := by
            show resO l = _
            rw [hfO.out, ← hRsH.out]
            unfold putO
            rw [if_neg hjl]
          have hfW2 : Hid (resW l = (pickL (cst l) (bestT (cst l) n) l.length k R).foldl (putW l) ((Wt.set i (whI l i j == (i : Int))).set j (whI l i j == (j : Int)))) := by
            show resW l = _
            rw [hfW.out, ← hRsH.out]
            unfold putW
            rw [if_neg hjl]
          have hXR : Hid (bestT (cst l) n R ≠ -1) := by rw [hRsH.out]; exact hX.out
          clear hfO hfW hX hjl hxi hxj hwh ho1 ho2 hp0 hp1
          generalize whI l i j = V at *
          generalize colC xi xj = CC at *
          as_aux_lemma =>
            go_wp2_with fail
            go_quiet (fail)
            go_wp2_with fail
            go_quiet (fail)
            go_wp2_with fail
            go_at_call 35
            refine (hcl.out _ (below_drewN hPA7.out.below _)).mono ?_
            rintro e w8 ⟨rfl, hb8⟩
            have hPA8 := Lib.hid ((hPA7.out.drewN _).next hb8)
            have hp0 : w8.cell? ⟨Bp, 0, none⟩ = some (.slice (some ⟨Bo, 0, none⟩) l.length l.length) := by rw [cell_of_row _ _ _ _ _ _ hPA8.out.p]; rfl
            have hp1 : w8.cell? ⟨Bp, 1, none⟩ = some (.slice (some ⟨Bw, 0, none⟩) l.length l.length) := by rw [cell_of_row _ _ _ _ _ _ hPA8.out.p]; rfl
            have hA1 := Lib.hid (hPA8.out.setO i (j : Int))
            have hA2 := Lib.hid (hA1.out.setO j (i : Int))
            have hA3 := Lib.hid (hA2.out.setW i (V == (i : Int)))
            have hA4 := Lib.hid (hA3.out.setW j (V == (j : Int)))
            have hd8 := hPA8.out.d
            obtain ⟨b1, hb1⟩ : ∃ v, O[i]? = some v := ⟨_, List.getElem?_eq_getElem (by omega)⟩
            obtain ⟨b2, hb2⟩ : ∃ v, (O.set i (j : Int))[j]? = some v := ⟨_, List.getElem?_eq_getElem (by rw [List.length_set]; omega)⟩
            obtain ⟨b3, hb3⟩ : ∃ v, Wt[i]? = some v := ⟨_, List.getElem?_eq_getElem (by omega)⟩
            obtain ⟨b4, hb4⟩ : ∃ v, (Wt.set i (V == (i : Int)))[j]? = some v := ⟨_, List.getElem?_eq_getElem (by rw [List.length_set]; omega)⟩
            have x1 := hPA8.out.o.cell hb1
            have y1 := hPA8.out.o.fr i
            have x2 := hA1.out.o.cell hb2
            have y2 := hPA8.out.o.fr j
            have x3 := hA2.out.v.cell hb3
            have y3 := hPA8.out.v.fr i
            have x4 := hA3.out.v.cell hb4
            have y4 := hPA8.out.v.fr j
            clear hb1 hb2 hb3 hb4 hb8 hcl hPA7 hb7 hPA8 hA1 hA2 hA3
            go_wp2_with fail
            refine wp_region_held_drew (S := fun W => W.cell? ⟨Bp, 0, none⟩ = some (.slice (some ⟨Bo, 0, none⟩) l.length l.length) ∧ W.cell? ⟨Bp, 1, none⟩ = some (.slice (some ⟨Bw, 0, none⟩) l.length l.length)) (by kernel_rfl) ⟨hp0, hp1⟩ (fun hHeld => ?_)
            refine wpAnyH_take (i := 0) (v := ?_) rfl (by kernel_rfl) (by kernel_rfl) (by kernel_rfl) (fun _ _ _ h => h) (Or.inl ⟨by rfl, ?_⟩) hHeld ?_
            rotate_left
            · intro W9 hSw; (try dsimp only at hSw); go_simp; (try with_reducible rfl)
            simp only [Act.put, List.getElem_toArray, List.getElem_cons_zero, List.getElem_cons_succ, List.setIfInBounds_toArray, List.set_cons_zero, List.set_cons_succ]
            refine wpAnyH_take (i := 1) (v := ?_) rfl (by kernel_rfl) (by kernel_rfl) (by kernel_rfl) (fun _ _ _ h => h) (Or.inl ⟨by rfl, ?_⟩) hHeld ?_
            rotate_left
            · intro W9 hSw; (try dsimp only at hSw); go_simp; (try with_reducible rfl)
            simp only [Act.put, List.getElem_toArray, List.getElem_cons_zero, List.getElem_cons_succ, List.setIfInBounds_toArray, List.set_cons_zero, List.set_cons_succ]
            refine wpAnyH_take (i := 2) (v := ?_) rfl (by kernel_rfl) (by kernel_rfl) (by kernel_rfl) (fun _ _ _ h => h) (Or.inl ⟨by rfl, ?_⟩) hHeld ?_
            rotate_left
            · intro W9 hSw; (try dsimp only at hSw); go_simp; (try with_reducible rfl)
            simp only [Act.put, List.getElem_toArray, List.getElem_cons_zero, List.getElem_cons_succ, List.setIfInBounds_toArray, List.set_cons_zero, List.set_cons_succ]
            refine wpAnyH_take (i := 3) (v := ?_) rfl (by kernel_rfl) (by kernel_rfl) (by kernel_rfl) (fun _ _ _ h => h) (Or.inl ⟨by rfl, ?_⟩) hHeld ?_
            rotate_left
            · intro W9 hSw; (try dsimp only at hSw); go_simp; (try with_reducible rfl)
            simp only [Act.put, List.getElem_toArray, List.getElem_cons_zero, List.getElem_cons_succ, List.setIfInBounds_toArray, List.set_cons_zero, List.set_cons_succ]
            refine wpAnyH_take (i := 4) (v := ?_) rfl (by kernel_rfl) (by kernel_rfl) (by kernel_rfl) (fun _ _ _ h => h) (Or.inl ⟨by rfl, ?_⟩) hHeld ?_
            rotate_left
            · intro W9 hSw; (try dsimp only at hSw); go_simp; (try with_reducible rfl)
            simp only [Act.put, List.getElem_toArray, List.getElem_cons_zero, List.getElem_cons_succ, List.setIfInBounds_toArray, List.set_cons_zero, List.set_cons_succ]
            refine wpAnyH_take (i := 5) (v := ?_) rfl (by kernel_rfl) (by kernel_rfl) (by kernel_rfl) (fun _ _ _ h => h) (Or.inl ⟨by rfl, ?_⟩) hHeld ?_
            rotate_left
            · intro W9 hSw; (try dsimp only at hSw); go_simp; (try with_reducible rfl)
            simp only [Act.put, List.getElem_toArray, List.getElem_cons_zero, List.getElem_cons_succ, List.setIfInBounds_toArray, List.set_cons_zero, List.set_cons_succ]
            refine wpAnyH_take (i := 6) (v := ?_) rfl (by kernel_rfl) (by kernel_rfl) (by kernel_rfl) (fun _ _ _ h => h) (Or.inl ⟨by rfl, ?_⟩) hHeld ?_
            rotate_left
            · intro W9 hSw; (try dsimp only at hSw); go_simp; (try with_reducible rfl)
            simp only [Act.put, List.getElem_toArray, List.getElem_cons_zero, List.getElem_cons_succ, List.setIfInBounds_toArray, List.set_cons_zero, List.set_cons_succ]
            refine wpAnyH_take (i := 7) (v := ?_) rfl (by kernel_rfl) (by kernel_rfl) (by kernel_rfl) (fun _ _ _ h => h) (Or.inl ⟨by rfl, ?_⟩) hHeld ?_
            rotate_left
            · intro W9 hSw; (try dsimp only at hSw); go_simp; (try with_reducible rfl)
            simp only [Act.put, List.getElem_toArray, List.getElem_cons_zero, List.getElem_cons_succ, List.setIfInBounds_toArray, List.set_cons_zero, List.set_cons_succ]
            refine wpAnyH_take (i := 8) (v := ?_) rfl (by kernel_rfl) (by kernel_rfl) (by kernel_rfl) (fun _ _ _ h => h) (Or.inl ⟨by rfl, ?_⟩) hHeld ?_
            rotate_left
            · intro W9 hSw; (try dsimp only at hSw); go_simp; (try with_reducible rfl)
            simp only [Act.put, List.getElem_toArray, List.getElem_cons_zero, List.getElem_cons_succ, List.setIfInBounds_toArray, List.set_cons_zero, List.set_cons_succ]
            refine wpAnyH_take (i := 9) (v := ?_) rfl (by kernel_rfl) (by kernel_rfl) (by kernel_rfl) (fun _ _ _ h => h) (Or.inl ⟨by rfl, ?_⟩) hHeld ?_
            rotate_left
            · intro W9 hSw; (try dsimp only at hSw); go_simp; (try with_reducible rfl)
            simp only [Act.put, List.getElem_toArray, List.getElem_cons_zero, List.getElem_cons_succ, List.setIfInBounds_toArray, List.set_cons_zero, List.set_cons_succ]
            refine wpAnyH_take (i := 10) (v := ?_) rfl (by kernel_rfl) (by kernel_rfl) (by kernel_rfl) (fun _ _ _ h => h) (Or.inl ⟨by rfl, ?_⟩) hHeld ?_
            rotate_left
            · intro W9 hSw; (try dsimp only at hSw); go_simp; (try with_reducible rfl)
            simp only [Act.put, List.getElem_toArray, List.getElem_cons_zero, List.getElem_cons_succ, List.setIfInBounds_toArray, List.set_cons_zero, List.set_cons_succ]
            refine wpAnyH_take (i := 11) (v := ?_) rfl (by kernel_rfl) (by kernel_rfl) (by kernel_rfl) (fun _ _ _ h => h) (Or.inl ⟨by rfl, ?_⟩) hHeld ?_
            rotate_left
            · intro W9 hSw; (try dsimp only at hSw); go_simp; (try with_reducible rfl)
            simp only [Act.put, List.getElem_toArray, List.getElem_cons_zero, List.getElem_cons_succ, List.setIfInBounds_toArray, List.set_cons_zero, List.set_cons_succ]
            refine wpAnyH_take (i := 12) (v := ?_) rfl (by kernel_rfl) (by kernel_rfl) (by kernel_rfl) (fun _ _ _ h => h) (Or.inl ⟨by rfl, ?_⟩) hHeld ?_
            rotate_left
            · intro W9 hSw; (try dsimp only at hSw); go_simp; (try with_reducible rfl)
            simp only [Act.put, List.getElem_toArray, List.getElem_cons_zero, List.getElem_cons_succ, List.setIfInBounds_toArray, List.set_cons_zero, List.set_cons_succ]
            refine wpAnyH_take (i := 13) (v := ?_) rfl (by kernel_rfl) (by kernel_rfl) (by kernel_rfl) (fun _ _ _ h => h) (Or.inl ⟨by rfl, ?_⟩) hHeld ?_
            rotate_left
            · intro W9 hSw; (try dsimp only at hSw); go_simp; (try with_reducible rfl)
            simp only [Act.put, List.getElem_toArray, List.getElem_cons_zero, List.getElem_cons_succ, List.setIfInBounds_toArray, List.set_cons_zero, List.set_cons_succ]
            refine wpAnyH_take (i := 14) (v := ?_) rfl (by kernel_rfl) (by kernel_rfl) (by kernel_rfl) (fun _ _ _ h => h) (Or.inl ⟨by rfl, ?_⟩) hHeld ?_
            rotate_left
            · intro W9 hSw; (try dsimp only at hSw); go_simp; (try with_reducible rfl)
            simp only [Act.put, List.getElem_toArray, List.getElem_cons_zero, List.getElem_cons_succ, List.setIfInBounds_toArray, List.set_cons_zero, List.set_cons_succ]
            refine wpAnyH_take (i := 15) (v := ?_) rfl (by kernel_rfl) (by kernel_rfl) (by kernel_rfl) (fun _ _ _ h => h) (Or.inl ⟨by rfl, ?_⟩) hHeld ?_
            rotate_left
            · intro W9 hSw; (try dsimp only at hSw); go_simp; (try with_reducible rfl)
            simp only [Act.put, List.getElem_toArray, List.getElem_cons_zero, List.getElem_cons_succ, List.setIfInBounds_toArray, List.set_cons_zero, List.set_cons_succ]
            refine wpAnyH_take (i := 16) (v := ?_) rfl (by kernel_rfl) (by kernel_rfl) (by kernel_rfl) (fun _ _ _ h => h) (Or.inl ⟨by rfl, ?_⟩) hHeld ?_
            rotate_left
            · intro W9 hSw; (try dsimp only at hSw); go_simp; (try with_reducible rfl)
            simp only [Act.put, List.getElem_toArray, List.getElem_cons_zero, List.getElem_cons_succ, List.setIfInBounds_toArray, List.set_cons_zero, List.set_cons_succ]
            refine wpAnyH_take (i := 17) (v := ?_) rfl (by kernel_rfl) (by kernel_rfl) (by kernel_rfl) (fun _ _ _ h => h) (Or.inl ⟨by rfl, ?_⟩) hHeld ?_
            rotate_left
            · intro W9 hSw; (try dsimp only at hSw); go_simp; (try with_reducible rfl)
            simp only [Act.put, List.getElem_toArray, List.getElem_cons_zero, List.getElem_cons_succ, List.setIfInBounds_toArray, List.set_cons_zero, List.set_cons_succ]
            refine wpAnyH_take (i := 18) (v := ?_) rfl (by kernel_rfl) (by kernel_rfl) (by kernel_rfl) (fun _ _ _ h => h) (Or.inl ⟨by rfl, ?_⟩) hHeld ?_
            rotate_left
            · intro W9 hSw; (try dsimp only at hSw); go_simp; (try with_reducible rfl)
            simp only [Act.put, List.getElem_toArray, List.getElem_cons_zero, List.getElem_cons_succ, List.setIfInBounds_toArray, List.set_cons_zero, List.set_cons_succ]
            refine wpAnyH_take (i := 19) (v := ?_) rfl (by kernel_rfl) (by kernel_rfl) (by kernel_rfl) (fun _ _ _ h => h) (Or.inl ⟨by rfl, ?_⟩) hHeld ?_
            rotate_left
            · intro W9 hSw; (try dsimp only at hSw); go_simp; (try with_reducible rfl)
            simp only [Act.put, List.getElem_toArray, List.getElem_cons_zero, List.getElem_cons_succ, List.setIfInBounds_toArray, List.set_cons_zero, List.set_cons_succ]
            refine wpAnyH_take (i := 20) (v := ?_) rfl (by kernel_rfl) (by kernel_rfl) (by kernel_rfl) (fun _ _ _ h => h) (Or.inl ⟨by rfl, ?_⟩) hHeld ?_
            rotate_left
            · intro W9 hSw; (try dsimp only at hSw); go_simp; (try with_reducible rfl)
            simp only [Act.put, List.getElem_toArray, List.getElem_cons_zero, List.getElem_cons_succ, List.setIfInBounds_toArray, List.set_cons_zero, List.set_cons_succ]
            refine wpAnyH_ready (rs := [21]) (by kernel_rfl) (by simp) ?_
            refine AllReadyH.cons rfl (fun K hK => ?_) AllReadyH.nil
            go_simp
            refine hK.out _ _ (⟨by rw [← hHeld.1]; exact World.cell?_setCell_far _ _ _ _ (by show Bo ≠ Bp; omega), by rw [← hHeld.2]; exact World.cell?_setCell_far _ _ _ _ (by show Bo ≠ Bp; omega)⟩) (fun hHeld2 => ?_)
            clear hK K hHeld
            have hHeld := hHeld2
            clear hHeld2
            refine wpAnyH_take (i := 22) (v := ?_) rfl (by kernel_rfl) (by kernel_rfl) (by kernel_rfl) (fun _ _ _ h => h) (Or.inl ⟨by rfl, ?_⟩) hHeld ?_
            rotate_left
            · intro W9 hSw; (try dsimp only at hSw); go_simp; (try with_reducible rfl)
            simp only [Act.put, List.getElem_toArray, List.getElem_cons_zero, List.getElem_cons_succ, List.setIfInBounds_toArray, List.set_cons_zero, List.set_cons_succ]
            refine wpAnyH_ready (rs := [23]) (by kernel_rfl) (by simp) ?_
            refine AllReadyH.cons rfl (fun K hK => ?_) AllReadyH.nil
            go_simp
            refine hK.out _ _ (⟨by rw [← hHeld.1]; exact World.cell?_setCell_far _ _ _ _ (by show Bo ≠ Bp; omega), by rw [← hHeld.2]; exact World.cell?_setCell_far _ _ _ _ (by show Bo ≠ Bp; omega)⟩) (fun hHeld2 => ?_)
            clear hK K hHeld
            have hHeld := hHeld2
            clear hHeld2
            refine wpAnyH_take (i := 24) (v := ?_) rfl (by kernel_rfl) (by kernel_rfl) (by kernel_rfl) (fun _ _ _ h => h) (Or.inl ⟨by rfl, ?_⟩) hHeld ?_
            rotate_left
            · intro W9 hSw; (try dsimp only at hSw); go_simp; (try with_reducible rfl)
            simp only [Act.put, List.getElem_toArray, List.getElem_cons_zero, List.getElem_cons_succ, List.setIfInBounds_toArray, List.set_cons_zero, List.set_cons_succ]
            refine wpAnyH_ready (rs := [25]) (by kernel_rfl) (by simp) ?_
            refine AllReadyH.cons rfl (fun K hK => ?_) AllReadyH.nil
            go_simp
            refine hK.out _ _ (⟨by rw [← hHeld.1]; exact World.cell?_setCell_far _ _ _ _ (by show Bw ≠ Bp; omega), by rw [← hHeld.2]; exact World.cell?_setCell_far _ _ _ _ (by show Bw ≠ Bp; omega)⟩) (fun hHeld2 => ?_)
            clear hK K hHeld
            have hHeld := hHeld2
            clear hHeld2
            refine wpAnyH_take (i := 26) (v := ?_) rfl (by kernel_rfl) (by kernel_rfl) (by kernel_rfl) (fun _ _ _ h => h) (Or.inl ⟨by rfl, ?_⟩) hHeld ?_
            rotate_left
            · intro W9 hSw; (try dsimp only at hSw); go_simp; (try with_reducible rfl)
            simp only [Act.put, List.getElem_toArray, List.getElem_cons_zero, List.getElem_cons_succ, List.setIfInBounds_toArray, List.set_cons_zero, List.set_cons_succ]
            refine wpAnyH_ready (rs := [27]) (by kernel_rfl) (by simp) ?_
            refine AllReadyH.cons rfl (fun K hK => ?_) AllReadyH.nil
            go_simp
            refine hK.out _ _ (⟨by rw [← hHeld.1]; exact World.cell?_setCell_far _ _ _ _ (by show Bw ≠ Bp; omega), by rw [← hHeld.2]; exact World.cell?_setCell_far _ _ _ _ (by show Bw ≠ Bp; omega)⟩) (fun hHeld2 => ?_)
            clear hK K hHeld
            have hHeld := hHeld2
            clear hHeld2
            refine wpAnyH_done (by kernel_rfl) ?_ _
            clear hHeld x1 x2 x3 x4 y1 y2 y3 y4 hp0 hp1
            go_wp2_with fail
            go_roundw
            case rel => (repeat apply Exists.intro); exact ⟨⟨R, k, _, _, rfl, by omega, by omega, hXR, by rw [List.length_set, List.length_set]; exact hOl, by rw [List.length_set, List.length_set]; exact hWl, hfO2, hfW2, hA4.out.drewN 1⟩, rfl⟩
            case measure => simp [intOf]; omega
end Go.Proofs.YtjjjdoealagpcaaDoor
