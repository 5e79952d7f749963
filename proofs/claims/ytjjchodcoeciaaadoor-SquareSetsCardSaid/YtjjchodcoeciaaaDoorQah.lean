/- Layer 1: the law on sets. squares all valid. -/
import Derived.Test.YtjjchodcoeciaaaDoorQag
namespace Go.Proofs.YtjjchodcoeciaaaDoor
open Go.RowKit
set_option linter.unusedSimpArgs false
set_option linter.unusedVariables false
attribute [local go_sem] Oper.semAt_some

set_option maxRecDepth 100000 in
set_option maxHeartbeats 2000000 in
theorem sets_good (f r : Int) (A : Option Addr) (l : List Int) (cap : Nat) (m : Nat) (a many : Int) (w : World) (hT : TabAt w) (hg : RecAt iEnc 1 w w.heap.size A l) (hl : l.length ≤ 70) (hm : m < 18446744073709551616) (hgood : goodK f r l l.length = true) :
    Calls Tryd.prog 9 #[.agg #[.int .i64 f, .int .i64 r], .slice A l.length cap, .int .u64 (m : Int), .int .i64 a, .int .i64 many] w fun e w' => e = .returned (.bool true) ∧ Below w.heap.size w w' := by
  have hTH := Lib.hid hT
  have hpos := hT.pos
  have hgH := Lib.hid hg
  have hgoodH := Lib.hid hgood
  have hallH := Lib.hid (goodK_all hgood).2
  have hsH := Lib.hid (goodK_all hgood).1
  have hin : Hid (∀ j, j < l.length → 0 ≤ l.getD j 0 ∧ l.getD j 0 < 64) := fun j hj => by
    have h := sqB_out (hallH.out j hj)
    obtain ⟨f0, f1, r0, r1⟩ := szB_out hsH.out
    have := (mul_bd f0 f1 r0 r1).2
    exact ⟨h.2.1, by omega⟩
  have hof := pof_gen f r A cap l
  have hofH := Lib.hid (fun (W : World) (hg : RecAt iEnc 1 W W.heap.size A l) => by
    have h := hof W hsH.out (by omega) hg
    rw [if_pos hallH.out] at h
    exact h : ∀ W : World, RecAt iEnc 1 W W.heap.size A l → Calls Tryd.prog 34 #[.agg #[.int .i64 f, .int .i64 r], .slice A l.length cap] W fun e w' => e = .returned (.tuple #[.int .u64 (ofL l l.length : Nat), .int .i64 0]) ∧ Below W.heap.size W w')
  clear hT hg hgood hof
  have hfn := fun (b : Nat) (w : World) => run_eql_func 44 b w
  have hK := Lib.hid (SK.first f r many w 23 3 4)
  have c0 := hK.out.c0
  have c1 := hK.out.c1
  have cm := hK.out.cm
  have cr := hK.out.cr
  have fr := hK.out.fr
  have hgW : ∀ W : World, SK f r many w W → RecAt iEnc 1 W W.heap.size A l := fun W h => (hgH.out.below (Nat.le_refl _) h.below).more h.below.size
  have hgWH := Lib.hid hgW
  clear hgW
  refine (callsIn_wide (n := 5)).1 ?_
  refine callsIn_of_wp_marks Tryd.func9 rfl trivial ?_ rfl
  simp only [Tryd.ntmps9, List.size_toArray, List.length_cons, List.length_nil, Nat.reduceAdd, Nat.reduceSub, Array.replicate_succ, Array.replicate_zero, List.push_toArray, List.append_toArray, List.nil_append, List.cons_append]
  gi_wp2_with (first
    | (refine ⟨trivial, ?_⟩; gi_at_call 34; refine (callsIn_wide.2 (hofH.out _ (hgWH.out _ hK.out))).mono ?_; rintro e w' ⟨rfl, hb⟩; replace hK := Lib.hid (hK.out.next hb); replace c0 := hK.out.c0; replace c1 := hK.out.c1; replace cm := hK.out.cm; replace cr := hK.out.cr; replace fr := hK.out.fr; clear hb)
    | (refine ⟨trivial, ?_⟩; gi_at_call 13; refine (callsIn_wide.2 (rsize _ _ _)).mono ?_; rintro e w' ⟨rfl, hb⟩; rw [hsH.out]; replace hK := Lib.hid (hK.out.next hb); replace c0 := hK.out.c0; replace c1 := hK.out.c1; replace cm := hK.out.cm; replace cr := hK.out.cr; replace fr := hK.out.fr; clear hb))
  have hlen70 := hl
  gi_loopw [13, 14] (fun g i wr => ∃ k : Nat, k ≤ l.length ∧ i = .int .i64 k ∧ g = .bool true ∧ Hid (SK f r many w wr)) (fun _ i _ => l.length - (intOf i).toNat)
  case atStart => exact ⟨0, by omega, rfl, rfl, hK⟩
  case round =>
    clear hK c0 c1 cm cr fr
    obtain ⟨k, hk, rfl, rfl, hK⟩ := hrel
    have c0 := hK.out.c0
    have c1 := hK.out.c1
    by_cases hkl : k < l.length
    · have hrec := hgWH.out _ hK.out (by omega)
      obtain ⟨b, off, rfl, hb, hc⟩ := hrec
      have hcell := hc k (l.getD k 0) (by rw [List.getElem?_eq_getElem hkl, List.getD_eq_getElem?_getD, List.getElem?_eq_getElem hkl]; rfl) 0 _ rfl
      rw [Nat.mul_one, Nat.add_zero] at hcell
      have hv := Lib.hid (hallH.out k hkl)
      generalize l.getD k 0 = x at hcell hv
      clear hc
      gi_upto_region 8 with (fail)
      have hmx : Tryd.prog.follows .mixedOrders = true := by kernel_rfl
      refine wpIn_last fun K hK9 => ?_
      gi_cut [13] from 200 (fun g wc => g = .bool true ∧ Hid (SK f r many w wc))
      case first =>
        gi_region_with (refine ⟨trivial, ?_⟩; gi_at_call 15; refine (callsIn_wide.2 (rvalidsq _ _ _ _)).mono ?_; rintro e w' ⟨rfl, hb⟩; rw [hv.out]; replace hK := Lib.hid (hK.out.drew.next hb); clear hb)
        all_goals (gi_wp2; gi_meet; exact ⟨rfl, hK⟩)
      case rest =>
        clear hK c0 c1
        obtain ⟨rfl, hK⟩ := hcut
        refine hK9 _ _ ?_
        clear hK9
        gi_wp2
        go_roundw
        case rel => exact ⟨k + 1, by omega, by go_num, rfl, hK⟩
        case measure => simp [intOf]; omega
    · skip
      have c0 := hK.out.c0
      have cm := hK.out.cm
      have cr := hK.out.cr
      have fr := hK.out.fr
      gi_wp2_with (first
        | (refine ⟨trivial, ?_⟩; gi_at_call 35; refine (callsIn_wide.2 (rof l A cap _ (by omega) hin.out (hgWH.out _ hK.out))).mono ?_; rintro e w' ⟨rfl, rfl⟩)
        | (refine ⟨trivial, ?_⟩; gi_at_call 36; refine (callsIn_wide.2 (rlist m _)).mono ?_; rintro e w' ⟨⟨AL, cL, rfl, hRL⟩, hb⟩; replace hK := Lib.hid (hK.out.next hb); replace c0 := hK.out.c0; replace c1 := hK.out.c1; replace cm := hK.out.cm; replace cr := hK.out.cr; replace fr := hK.out.fr; have hRLH := Lib.hid hRL; clear hb hRL))
      gi_wp2_with (first
        | (gi_not_at_region 18; fail)
        | (refine ⟨trivial, ?_⟩; gi_at_call 33; refine (callsIn_wide.2 (peach _ _)).mono ?_; rintro e w3 ⟨rfl, rfl⟩)
        | (refine ⟨trivial, ?_⟩; gi_at_call 37; refine (callsIn_wide.2 (phas m hm _ _)).mono ?_; rintro e w4 ⟨rfl, rfl⟩)
        | (refine ⟨trivial, ?_⟩; gi_at_call 38; refine (callsIn_wide.2 (rhasI m _ _)).mono ?_; rintro e w4 ⟨rfl, rfl⟩))
      have hwlt : w.heap.size + 1 + 1 < w'.heap.size := hK.out.lt
      have hSW := Lib.hid (SW.first (m := m) (cL := cL) (t := 62) (t2 := 28) hRLH.out)
      have hK2 : Hid (SK f r many w ((w'.alloc (.cells #[.slice AL (LI m 64).length cL] 62)).alloc (.cells #[.int .u64 (m : Int)] 28))) := hK.out.next (((Below.refl _ _).alloc (Nat.le_refl _) _).alloc (by simp) _)
      clear hRLH hK c0 c1 cm cr fr hofH hgWH hfn
      obtain ⟨W2, hW2⟩ : ∃ W2, ((w'.alloc (.cells #[.slice AL (LI m 64).length cL] 62)).alloc (.cells #[.int .u64 (m : Int)] 28)) = W2 := ⟨_, rfl⟩
      have hz2 : W2.heap.size = w'.heap.size + 1 + 1 := by rw [← hW2, World.size_alloc, World.size_alloc]
      rw [hW2] at hSW hK2 ⊢
      clear hW2
      generalize w'.heap.size = Bw at *
      have hb3 := Lib.hid ((Below.refl W2.heap.size W2).alloc (Nat.le_refl _) (.cells #[.int .i64 0] 3))
      have hK3 := Lib.hid (hK2.out.next hb3.out)
      have hS3 := Lib.hid (hSW.out.next hb3.out)
      have ct : (W2.alloc (.cells #[.int .i64 0] 3)).cell? ⟨W2.heap.size, 0, none⟩ = some (.int .i64 0) := by rw [cell_of_row _ _ _ _ _ _ (heap_alloc_new W2 _)]; rfl
      have hs3 : (W2.alloc (.cells #[.int .i64 0] 3)).heap.size = W2.heap.size + 1 := World.size_alloc _ _
      obtain ⟨W3, hW3⟩ : ∃ W3, W2.alloc (.cells #[.int .i64 0] 3) = W3 := ⟨_, rfl⟩
      rw [hW3] at hK3 hS3 ct hs3 ⊢
      rw [hz2] at ct hs3
      clear hW3 hb3 hSW hK2 hz2
      have hLN := Lib.hid (LI_len_sqs hm)
      refine wpIn_loop_rounds 3 ?_
      rw [roundsIn_succ]
      gi_wp2
      have hk0 := Lib.hid (KC.first W3 0 3)
      rw [hs3] at hk0
      have hTW3 : Hid (TabAt W3) := hTH.out.below hpos hK3.out.below
      refine wpIn_mono (Q := fun e a' W' => (e = .normal ∨ e = .exit 4) ∧ ∃ Dx, Bw + 1 + 1 + 1 < Dx ∧ W'.heap[Dx]? = some (.deferred (some [])) ∧ a' = ⟨#[Value.agg #[Value.int IntKind.i64 f, Value.int IntKind.i64 r], Value.slice A l.length cap, Value.int IntKind.u64 ↑m, Value.int IntKind.i64 a, Value.int IntKind.i64 many, Value.pointer (some { block := w.heap.size, off := 0 }), undef, undef, undef, Value.pointer (some { block := w.heap.size + 1, off := 0 }), Value.pointer (some { block := w.heap.size + 1 + 1, off := 0 }), Value.int IntKind.u64 ↑(ofL l l.length), Value.int IntKind.i64 0, Value.bool true, Value.int IntKind.i64 ↑k, Value.pointer (some { block := Bw, off := 0 }), Value.func (Fn.func 44) #[] #[Value.pointer (some { block := Bw + 1, off := 0 })], Value.pointer (some { block := Bw + 1 + 1, off := 0 }), Value.pointer (some { block := Bw + 1 + 1 + 1, off := 0 }), undef, Value.slice A l.length cap, Value.int IntKind.i64 ↑l.length, Value.bool (decide ((70 : Int) < ↑l.length)), undef, Value.tuple #[Value.int IntKind.u64 ↑(ofL l l.length), Value.int IntKind.i64 0], Value.agg #[Value.int IntKind.i64 f, Value.int IntKind.i64 r], Value.slice A l.length cap, Value.tuple #[Value.int IntKind.u64 ↑(ofL l l.length), Value.int IntKind.i64 0], Value.int IntKind.u64 ↑(ofL l l.length), Value.int IntKind.i64 0, Value.agg #[Value.int IntKind.i64 f, Value.int IntKind.i64 r], Value.bool true, Value.int IntKind.i64 ↑k, Value.slice A l.length cap, Value.int IntKind.i64 ↑l.length, Value.bool false, u36, u37, u38, u39, u40, u41, u42, u43, u44, u45, u46, Value.bool true, Value.bool false, undef, undef, undef, undef, undef, undef, Value.int IntKind.u64 ↑(ofL l l.length), Value.slice A l.length cap, Value.int IntKind.u64 ↑(ofL l l.length), Value.bool false, Value.bool false, Value.int IntKind.i64 0, Value.bool false, Value.bool false, Value.int IntKind.u64 ↑m, Value.slice AL (LI m 64).length cL, Value.int IntKind.u64 ↑m, Value.func (Fn.func 44) #[] #[Value.pointer (some { block := Bw + 1, off := 0 })], Value.int IntKind.u64 ↑m, Value.int IntKind.i64 a, Value.bool (hasB m a), Value.int IntKind.u64 ↑m, Value.int IntKind.i64 a, Value.bool (hasB m a), Value.bool false, Value.bool false, Value.func (Fn.func 44) #[] #[Value.pointer (some { block := Bw + 1, off := 0 })], Value.bool false, Value.bool false, Value.int IntKind.i64 0, Value.bool true, undef, undef, Value.func (Fn.func 44) #[] #[Value.pointer (some { block := Bw + 1, off := 0 })], undef, undef, undef, undef, undef, undef, undef, undef, undef, undef, undef, undef, undef, undef, undef, undef, undef, undef, undef, undef, undef, undef, undef, undef, undef, undef, undef, undef, undef, undef, undef, undef, undef, undef, undef, undef, undef, undef, undef, undef, undef, undef, undef, undef, undef], { target := .collected Dx, args := #[] } :: []⟩ ∧ KC (Bw + 1 + 1 + 1) (turnK true many (sqs m).length) W3 W') ?range ?after
      case range =>
        refine wpIn_rangeFunc_ownF (n := 5) rfl (by omega) (gf := 44) (lb := #[.pointer (some ⟨Bw + 1, 0, none⟩)]) rfl trivial (enters_of Tryd.func44 (by kernel_rfl) rfl)
          (each_stops 4 (by omega) (Bw + 1) (W3).heap.size m (W3) hS3.out.ls (Nat.le_refl _) (by omega) hS3.out.cs hm hTW3.out) belowK_t (belowK_b (by simp)) ((Below.refl _ _).alloc (Nat.le_refl _) _) (fun _ => rfl)
          (IT true many (Bw + 1 + 1 + 1) (W3)) (IX m true many (Bw + 1 + 1 + 1) (W3))
          (own_IT _ _ _ _ (by simp)) (own_IX _ _ _ _ _ (by simp))
          ⟨hk0.out, fun _ h => absurd rfl h⟩
          (fun x : Sq => { tmps := #[Value.agg #[Value.int IntKind.i64 f, Value.int IntKind.i64 r], Value.slice A l.length cap, Value.int IntKind.u64 ↑m, Value.int IntKind.i64 a, Value.int IntKind.i64 many, Value.pointer (some { block := w.heap.size, off := 0 }), undef, undef, undef, Value.pointer (some { block := w.heap.size + 1, off := 0 }), Value.pointer (some { block := w.heap.size + 1 + 1, off := 0 }), Value.int IntKind.u64 ↑(ofL l l.length), Value.int IntKind.i64 0, Value.bool true, Value.int IntKind.i64 ↑k, Value.pointer (some { block := Bw, off := 0 }), Value.func (Fn.func 44) #[] #[Value.pointer (some { block := Bw + 1, off := 0 })], Value.pointer (some { block := Bw + 1 + 1, off := 0 }), Value.pointer (some { block := Bw + 1 + 1 + 1, off := 0 }), Value.int IntKind.i64 (x.1 : Int), Value.slice A l.length cap, Value.int IntKind.i64 ↑l.length, Value.bool (decide ((70 : Int) < ↑l.length)), undef, Value.tuple #[Value.int IntKind.u64 ↑(ofL l l.length), Value.int IntKind.i64 0], Value.agg #[Value.int IntKind.i64 f, Value.int IntKind.i64 r], Value.slice A l.length cap, Value.tuple #[Value.int IntKind.u64 ↑(ofL l l.length), Value.int IntKind.i64 0], Value.int IntKind.u64 ↑(ofL l l.length), Value.int IntKind.i64 0, Value.agg #[Value.int IntKind.i64 f, Value.int IntKind.i64 r], Value.bool true, Value.int IntKind.i64 ↑k, Value.slice A l.length cap, Value.int IntKind.i64 ↑l.length, Value.bool false, u36, u37, u38, u39, u40, u41, u42, u43, u44, u45, u46, Value.bool true, Value.bool false, undef, undef, undef, undef, undef, undef, Value.int IntKind.u64 ↑(ofL l l.length), Value.slice A l.length cap, Value.int IntKind.u64 ↑(ofL l l.length), Value.bool false, Value.bool false, Value.int IntKind.i64 0, Value.bool false, Value.bool false, Value.int IntKind.u64 ↑m, Value.slice AL (LI m 64).length cL, Value.int IntKind.u64 ↑m, Value.func (Fn.func 44) #[] #[Value.pointer (some { block := Bw + 1, off := 0 })], Value.int IntKind.u64 ↑m, Value.int IntKind.i64 a, Value.bool (hasB m a), Value.int IntKind.u64 ↑m, Value.int IntKind.i64 a, Value.bool (hasB m a), Value.bool false, Value.bool false, Value.func (Fn.func 44) #[] #[Value.pointer (some { block := Bw + 1, off := 0 })], Value.bool false, Value.bool false, Value.int IntKind.i64 0, Value.bool true, undef, undef, Value.func (Fn.func 44) #[] #[Value.pointer (some { block := Bw + 1, off := 0 })], Value.int IntKind.i64 (x.1 : Int), undef, undef, undef, undef, undef, undef, undef, undef, undef, undef, undef, undef, undef, undef, undef, undef, undef, undef, undef, undef, undef, undef, undef, undef, undef, undef, undef, undef, undef, undef, undef, undef, undef, undef, undef, undef, undef, undef, undef, undef, undef, undef, undef, undef], defers := [] }) ?assign ?body ?done ?stop
        case assign =>
          intro l' x W K hK'
          gi_wp2
          exact hK'
        case done =>
          rintro Dy ys W hD hys hI hKD
          exact ⟨.inl rfl, Dy, by simp at hD; omega, hKD, rfl, IT_done hI hys⟩
        case stop =>
          rintro Dy c pre W hD hSp hIx hKD
          obtain ⟨rfl, hkc⟩ := IX_exit hIx hSp
          exact wpIn_exit ⟨.inr rfl, Dy, by simp at hD; omega, hKD, rfl, hkc⟩
        case body =>
          rintro l' pre ⟨x, hx64⟩ W ⟨hKC, hfst⟩ hlen
          have hlenI : (pre.length : Int) < ((LI m 64).length : Int) := by rw [hLN.out]; omega
          have hlen0 : (0 : Int) ≤ (pre.length : Int) := Int.natCast_nonneg _
          have hlen64 : (pre.length : Int) ≤ 64 := by have := LI_len m 64; omega
          have hdec : decide ((LI m 64).length ≤ pre.length) = false := decide_eq_false (by omega)
          have hpl : pre.length < (LI m 64).length := by rw [hLN.out]; exact hlen
          obtain ⟨bL, oL, rfl, hbL, hcL⟩ := hS3.out.recs (by omega)
          have hKw := Lib.hid (hK3.out.next (hKC.below))
          have hSw := Lib.hid (hS3.out.next (hKC.below))
          have hKCH := Lib.hid hKC
          have hfstH := Lib.hid hfst
          have ck := hKC.ck
          have fk := hKC.fk
          have cm := hKw.out.cm
          have cw := hSw.out.cw
          have fr := hKw.out.fr
          have cr := hKw.out.cr
          have ct' := (hKC.below.cell (p := ⟨Bw + 1 + 1, 0, none⟩) (by dsimp only; omega)).trans ct
          have h3c := hcL pre.length _ (want_at hm hlen) 0 _ rfl
          rw [Nat.mul_one, Nat.add_zero] at h3c
          have hcell := (hKC.below.cell (p := ⟨bL, oL + pre.length, none⟩) hbL).trans h3c
          clear hKC hfst ct h3c
          have hbadH := fun h => Lib.hid (bad_pre (m := m) (pre := pre) (x := ⟨x, hx64⟩) rfl h)
          have hbadH := Lib.hid hbadH
          clear hcL
          have hltW : Bw + 1 + 1 + 1 < W.heap.size := hKCH.out.lt
          have hne1 : ¬ w.heap.size + 1 = Bw + 1 + 1 + 1 := by have := hK3.out.lt; omega
          have hne2 : ¬ bL = Bw + 1 + 1 + 1 := by omega
          have hln1 : (((pre ++ [(⟨x, hx64⟩ : Sq)]).length : Nat) : Int) = (pre.length : Int) + 1 := by simp
          have hset := Lib.hid (hKCH.out.set (by rw [hs3]; omega) ((pre.length : Int) + 1))
          have hlnH := Lib.hid hln1
          have hs3H := Lib.hid hs3
          clear hln1 hs3
          generalize hy : (sqs m).getD pre.length 0 = y at *
          clear hy
          by_cases hxy : x = y
          · subst hxy
            clear hbadH cr fr
            by_cases hst : many ≤ (pre.length : Int) + 1
            · gi_wp2
              refine ⟨KeepsOthers.setCell _ _ _, .inl ⟨rfl, rfl, by rw [hlnH.out]; exact hset.out, by have := hlnH.out; omega, by have := hlnH.out; omega, ?_⟩⟩
              have := hlnH.out
              rcases Nat.eq_zero_or_pos pre.length with h0 | h0
              · left; omega
              · right; have := hfstH.out (by first | rfl | trivial) (by intro e; rw [e] at h0; cases h0); omega
            · gi_wp2
              exact ⟨KeepsOthers.setCell _ _ _, (Below.refl _ _).setCell (p := ⟨Bw + 1 + 1 + 1, 0, none⟩) (by have := hs3H.out; dsimp only; omega) _, by rw [hlnH.out]; exact hset.out, fun _ _ => by have := hlnH.out; omega⟩
          · have hxI : ((x : Int) != (y : Int)) = true := by rw [bne_iff_ne]; omega
            gi_wp2
            exact ⟨KeepsOthers.setCell _ _ _, .inr ⟨rfl, (hbadH.out (fun e => hxy e.symm)).out⟩⟩
      rintro e a' W5 ⟨he, D, hD, hKD, rfl, hkc⟩
      refine inBlock_both he ?_
      have hK5 := Lib.hid (hK3.out.next hkc.below)
      have hS5 := Lib.hid (hS3.out.next hkc.below)
      have ck := hkc.ck
      have cm := hK5.out.cm
      have cw := hS5.out.cw
      have ct5 := (hkc.below.cell (p := ⟨Bw + 1 + 1, 0, none⟩) (by dsimp only; omega)).trans ct
      have hb5 := Lib.hid hkc.below
      have hKDH := Lib.hid hKD
      have hs5 := hkc.lt
      clear hkc hKD hk0 ct hK3 hS3 he
      have hkv : turnK true many (sqs m).length = min ((LI m 64).length : Int) (max 1 many) := by unfold turnK; rw [if_pos rfl, hLN.out]
      have hkb : (turnK true many (sqs m).length != min ((LI m 64).length : Int) (max 1 many)) = false := by rw [hkv]; simp
      clear hkv
      generalize turnK true many (sqs m).length = kv at *
      gi_wp2
      rw [roundsIn_succ]
      gi_wp2
      have hDlt : D < W5.heap.size := (Array.getElem?_eq_some_iff.1 hKDH.out).1
      have hb6 := Lib.hid ((Below.refl W5.heap.size W5).alloc (Nat.le_refl _) (.cells #[.int .i64 1] 3))
      have hK3 := Lib.hid (hK5.out.next hb6.out)
      have hS3 := Lib.hid (hS5.out.next hb6.out)
      have hKD3 : Hid ((W5.alloc (.cells #[.int .i64 1] 3)).heap[D]? = some (.deferred (some []))) := (hb6.out.block D hDlt).trans hKDH.out
      have ct : (W5.alloc (.cells #[.int .i64 1] 3)).cell? ⟨W5.heap.size, 0, none⟩ = some (.int .i64 1) := by rw [cell_of_row _ _ _ _ _ _ (heap_alloc_new W5 _)]; rfl
      have hs3 : (W5.alloc (.cells #[.int .i64 1] 3)).heap.size = W5.heap.size + 1 := World.size_alloc _ _
      clear hb6 hK5 hS5 ck cm cw ct5 hKDH
      obtain ⟨W6, hW6⟩ : ∃ W6, W5.alloc (.cells #[.int .i64 1] 3) = W6 := ⟨_, rfl⟩
      rw [hW6] at hK3 hS3 ct hs3 hKD3 ⊢
      clear hW6
      have hk0 := Lib.hid (KC.first W6 0 3)
      rw [hs3] at hk0
      have hTW3 : Hid (TabAt W6) := hTH.out.below hpos hK3.out.below
      refine wpIn_mono (Q := fun e a' W' => (e = .normal ∨ e = .exit 4) ∧ ∃ Dx, W5.heap.size + 1 < Dx ∧ W'.heap[Dx]? = some (.deferred (some [])) ∧ a' = ⟨#[Value.agg #[Value.int IntKind.i64 f, Value.int IntKind.i64 r], Value.slice A l.length cap, Value.int IntKind.u64 ↑m, Value.int IntKind.i64 a, Value.int IntKind.i64 many, Value.pointer (some { block := w.heap.size, off := 0 }), undef, undef, undef, Value.pointer (some { block := w.heap.size + 1, off := 0 }), Value.pointer (some { block := w.heap.size + 1 + 1, off := 0 }), Value.int IntKind.u64 ↑(ofL l l.length), Value.int IntKind.i64 0, Value.bool true, Value.int IntKind.i64 ↑k, Value.pointer (some { block := Bw, off := 0 }), Value.func (Fn.func 44) #[] #[Value.pointer (some { block := Bw + 1, off := 0 })], Value.pointer (some { block := W5.heap.size, off := 0 }), Value.pointer (some { block := W5.heap.size + 1, off := 0 }), undef, Value.slice A l.length cap, Value.int IntKind.i64 ↑l.length, Value.bool (decide ((70 : Int) < ↑l.length)), undef, Value.tuple #[Value.int IntKind.u64 ↑(ofL l l.length), Value.int IntKind.i64 0], Value.agg #[Value.int IntKind.i64 f, Value.int IntKind.i64 r], Value.slice A l.length cap, Value.tuple #[Value.int IntKind.u64 ↑(ofL l l.length), Value.int IntKind.i64 0], Value.int IntKind.u64 ↑(ofL l l.length), Value.int IntKind.i64 0, Value.agg #[Value.int IntKind.i64 f, Value.int IntKind.i64 r], Value.bool true, Value.int IntKind.i64 ↑k, Value.slice A l.length cap, Value.int IntKind.i64 ↑l.length, Value.bool false, u36, u37, u38, u39, u40, u41, u42, u43, u44, u45, u46, Value.bool true, Value.bool false, undef, undef, undef, undef, undef, undef, Value.int IntKind.u64 ↑(ofL l l.length), Value.slice A l.length cap, Value.int IntKind.u64 ↑(ofL l l.length), Value.bool false, Value.bool false, Value.int IntKind.i64 0, Value.bool false, Value.bool false, Value.int IntKind.u64 ↑m, Value.slice AL (LI m 64).length cL, Value.int IntKind.u64 ↑m, Value.func (Fn.func 44) #[] #[Value.pointer (some { block := Bw + 1, off := 0 })], Value.int IntKind.u64 ↑m, Value.int IntKind.i64 a, Value.bool (hasB m a), Value.int IntKind.u64 ↑m, Value.int IntKind.i64 a, Value.bool (hasB m a), Value.bool false, Value.bool false, Value.func (Fn.func 44) #[] #[Value.pointer (some { block := Bw + 1, off := 0 })], Value.bool false, Value.bool false, Value.int IntKind.i64 1, Value.bool true, Value.int IntKind.i64 0, Value.int IntKind.i64 1, Value.func (Fn.func 44) #[] #[Value.pointer (some { block := Bw + 1, off := 0 })], undef, undef, undef, undef, undef, undef, undef, undef, undef, undef, undef, undef, undef, undef, undef, undef, undef, undef, undef, undef, undef, undef, Value.int IntKind.i64 0, Value.bool true, Value.bool true, Value.int IntKind.i64 kv, Value.slice AL (LI m 64).length cL, Value.int IntKind.i64 ↑(LI m 64).length, Value.int IntKind.i64 many, Value.int IntKind.i64 (max 1 many), Value.int IntKind.i64 (min (↑(LI m 64).length) (max 1 many)), Value.bool false, Value.bool false, Value.bool false, Value.int IntKind.i64 0, Value.bool false, Value.bool false, undef, undef, undef, undef, Value.bool false, Value.bool false, Value.int IntKind.i64 0, undef], { target := .collected Dx, args := #[] } :: [{ target := .collected D, args := #[] }]⟩ ∧ KC (W5.heap.size + 1) (turnK false many (sqs m).length) W6 W') ?range2 ?after2
      case range2 =>
        refine wpIn_rangeFunc_ownF (n := 5) rfl (by omega) (gf := 44) (lb := #[.pointer (some ⟨Bw + 1, 0, none⟩)]) rfl trivial (enters_of Tryd.func44 (by kernel_rfl) rfl)
          (each_stops 4 (by omega) (Bw + 1) (W6).heap.size m (W6) hS3.out.ls (Nat.le_refl _) (by omega) hS3.out.cs hm hTW3.out) belowK_t (belowK_b (by simp)) ((Below.refl _ _).alloc (Nat.le_refl _) _) (fun _ => rfl)
          (IT false many (W5.heap.size + 1) (W6)) (IX m false many (W5.heap.size + 1) (W6))
          (own_IT _ _ _ _ (by simp)) (own_IX _ _ _ _ _ (by simp))
          ⟨hk0.out, fun _ h => absurd rfl h⟩
          (fun x : Sq => { tmps := #[Value.agg #[Value.int IntKind.i64 f, Value.int IntKind.i64 r], Value.slice A l.length cap, Value.int IntKind.u64 ↑m, Value.int IntKind.i64 a, Value.int IntKind.i64 many, Value.pointer (some { block := w.heap.size, off := 0 }), undef, undef, undef, Value.pointer (some { block := w.heap.size + 1, off := 0 }), Value.pointer (some { block := w.heap.size + 1 + 1, off := 0 }), Value.int IntKind.u64 ↑(ofL l l.length), Value.int IntKind.i64 0, Value.bool true, Value.int IntKind.i64 ↑k, Value.pointer (some { block := Bw, off := 0 }), Value.func (Fn.func 44) #[] #[Value.pointer (some { block := Bw + 1, off := 0 })], Value.pointer (some { block := W5.heap.size, off := 0 }), Value.pointer (some { block := W5.heap.size + 1, off := 0 }), Value.int IntKind.i64 (x.1 : Int), Value.slice A l.length cap, Value.int IntKind.i64 ↑l.length, Value.bool (decide ((70 : Int) < ↑l.length)), undef, Value.tuple #[Value.int IntKind.u64 ↑(ofL l l.length), Value.int IntKind.i64 0], Value.agg #[Value.int IntKind.i64 f, Value.int IntKind.i64 r], Value.slice A l.length cap, Value.tuple #[Value.int IntKind.u64 ↑(ofL l l.length), Value.int IntKind.i64 0], Value.int IntKind.u64 ↑(ofL l l.length), Value.int IntKind.i64 0, Value.agg #[Value.int IntKind.i64 f, Value.int IntKind.i64 r], Value.bool true, Value.int IntKind.i64 ↑k, Value.slice A l.length cap, Value.int IntKind.i64 ↑l.length, Value.bool false, u36, u37, u38, u39, u40, u41, u42, u43, u44, u45, u46, Value.bool true, Value.bool false, undef, undef, undef, undef, undef, undef, Value.int IntKind.u64 ↑(ofL l l.length), Value.slice A l.length cap, Value.int IntKind.u64 ↑(ofL l l.length), Value.bool false, Value.bool false, Value.int IntKind.i64 0, Value.bool false, Value.bool false, Value.int IntKind.u64 ↑m, Value.slice AL (LI m 64).length cL, Value.int IntKind.u64 ↑m, Value.func (Fn.func 44) #[] #[Value.pointer (some { block := Bw + 1, off := 0 })], Value.int IntKind.u64 ↑m, Value.int IntKind.i64 a, Value.bool (hasB m a), Value.int IntKind.u64 ↑m, Value.int IntKind.i64 a, Value.bool (hasB m a), Value.bool false, Value.bool false, Value.func (Fn.func 44) #[] #[Value.pointer (some { block := Bw + 1, off := 0 })], Value.bool false, Value.bool false, Value.int IntKind.i64 1, Value.bool true, Value.int IntKind.i64 0, Value.int IntKind.i64 1, Value.func (Fn.func 44) #[] #[Value.pointer (some { block := Bw + 1, off := 0 })], Value.int IntKind.i64 (x.1 : Int), undef, undef, undef, undef, undef, undef, undef, undef, undef, undef, undef, undef, undef, undef, undef, undef, undef, undef, undef, undef, undef, Value.int IntKind.i64 0, Value.bool true, Value.bool true, Value.int IntKind.i64 kv, Value.slice AL (LI m 64).length cL, Value.int IntKind.i64 ↑(LI m 64).length, Value.int IntKind.i64 many, Value.int IntKind.i64 (max 1 many), Value.int IntKind.i64 (min (↑(LI m 64).length) (max 1 many)), Value.bool false, Value.bool false, Value.bool false, Value.int IntKind.i64 0, Value.bool false, Value.bool false, undef, undef, undef, undef, Value.bool false, Value.bool false, Value.int IntKind.i64 0, undef], defers := [] }) ?assign2 ?body2 ?done2 ?stop2
        case assign2 =>
          intro l' x W K hK'
          gi_wp2
          exact hK'
        case done2 =>
          rintro Dy ys W hD hys hI hKD
          exact ⟨.inl rfl, Dy, by simp at hD; omega, hKD, rfl, IT_done hI hys⟩
        case stop2 =>
          rintro Dy c pre W hD hSp hIx hKD
          obtain ⟨rfl, hkc⟩ := IX_exit hIx hSp
          exact wpIn_exit ⟨.inr rfl, Dy, by simp at hD; omega, hKD, rfl, hkc⟩
        case body2 =>
          rintro l' pre ⟨x, hx64⟩ W ⟨hKC, hfst⟩ hlen
          have hlenI : (pre.length : Int) < ((LI m 64).length : Int) := by rw [hLN.out]; omega
          have hlen0 : (0 : Int) ≤ (pre.length : Int) := Int.natCast_nonneg _
          have hlen64 : (pre.length : Int) ≤ 64 := by have := LI_len m 64; omega
          have hdec : decide ((LI m 64).length ≤ pre.length) = false := decide_eq_false (by omega)
          have hpl : pre.length < (LI m 64).length := by rw [hLN.out]; exact hlen
          obtain ⟨bL, oL, rfl, hbL, hcL⟩ := hS3.out.recs (by omega)
          have hKw := Lib.hid (hK3.out.next (hKC.below))
          have hSw := Lib.hid (hS3.out.next (hKC.below))
          have hKCH := Lib.hid hKC
          have hfstH := Lib.hid hfst
          have ck := hKC.ck
          have fk := hKC.fk
          have cm := hKw.out.cm
          have cw := hSw.out.cw
          have fr := hKw.out.fr
          have cr := hKw.out.cr
          have ct' := (hKC.below.cell (p := ⟨W5.heap.size, 0, none⟩) (by dsimp only; omega)).trans ct
          have h3c := hcL pre.length _ (want_at hm hlen) 0 _ rfl
          rw [Nat.mul_one, Nat.add_zero] at h3c
          have hcell := (hKC.below.cell (p := ⟨bL, oL + pre.length, none⟩) hbL).trans h3c
          clear hKC hfst ct h3c
          have hbadH := fun h => Lib.hid (bad_pre (m := m) (pre := pre) (x := ⟨x, hx64⟩) rfl h)
          have hbadH := Lib.hid hbadH
          clear hcL
          have hltW : W5.heap.size + 1 < W.heap.size := hKCH.out.lt
          have hne1 : ¬ w.heap.size + 1 = W5.heap.size + 1 := by have := hK3.out.lt; omega
          have hne2 : ¬ bL = W5.heap.size + 1 := by omega
          have hln1 : (((pre ++ [(⟨x, hx64⟩ : Sq)]).length : Nat) : Int) = (pre.length : Int) + 1 := by simp
          have hset := Lib.hid (hKCH.out.set (by rw [hs3]; omega) ((pre.length : Int) + 1))
          have hlnH := Lib.hid hln1
          have hs3H := Lib.hid hs3
          clear hln1 hs3
          generalize hy : (sqs m).getD pre.length 0 = y at *
          clear hy
          by_cases hxy : x = y
          · subst hxy
            clear hbadH cr fr
            gi_wp2
            exact ⟨KeepsOthers.setCell _ _ _, (Below.refl _ _).setCell (p := ⟨W5.heap.size + 1, 0, none⟩) (by have := hs3H.out; dsimp only; omega) _, by rw [hlnH.out]; exact hset.out, fun h => by cases h⟩
          · have hxI : ((x : Int) != (y : Int)) = true := by rw [bne_iff_ne]; omega
            gi_wp2
            exact ⟨KeepsOthers.setCell _ _ _, .inr ⟨rfl, (hbadH.out (fun e => hxy e.symm)).out⟩⟩
      rintro e a' W8 ⟨he, D2, hD2, hKD, rfl, hkc⟩
      refine inBlock_both he ?_
      have hK5 := Lib.hid (hK3.out.next hkc.below)
      have hS5 := Lib.hid (hS3.out.next hkc.below)
      have ck := hkc.ck
      have cm := hK5.out.cm
      have cw := hS5.out.cw
      have ct5 := (hkc.below.cell (p := ⟨W5.heap.size, 0, none⟩) (by dsimp only; omega)).trans ct
      have hb5 := Lib.hid hkc.below
      have hKDH2 := Lib.hid hKD
      have hs5 := hkc.lt
      have hDb : Hid (W8.heap[D]? = some (.deferred (some []))) := (hkc.below.block D (by have := hDlt; rw [hs3]; omega)).trans hKD3.out
      clear hkc hKD hk0 ct hK3 hS3 he
      have hkv : turnK false many (sqs m).length = ((LI m 64).length : Int) := by unfold turnK; rw [hLN.out]; rfl
      have hkb : (turnK false many (sqs m).length != ((LI m 64).length : Int)) = false := by rw [hkv]; simp
      clear hkv
      generalize turnK false many (sqs m).length = kv2 at *
      gi_wp2
      rw [roundsIn_succ]
      have hb9 := Lib.hid ((Below.refl W8.heap.size W8).alloc (Nat.le_refl _) (.cells #[.int .i64 2] 3))
      have hK := Lib.hid (hK5.out.next hb9.out)
      have ct : (W8.alloc (.cells #[.int .i64 2] 3)).cell? ⟨W8.heap.size, 0, none⟩ = some (.int .i64 2) := by rw [cell_of_row _ _ _ _ _ _ (heap_alloc_new W8 _)]; rfl
      have hDk : Hid ((W8.alloc (.cells #[.int .i64 2] 3)).heap[D]? = some (.deferred (some []))) := (hb9.out.block D (Array.getElem?_eq_some_iff.1 hDb.out).1).trans hDb.out
      have hDk2 : Hid ((W8.alloc (.cells #[.int .i64 2] 3)).heap[D2]? = some (.deferred (some []))) := (hb9.out.block D2 (Array.getElem?_eq_some_iff.1 hKDH2.out).1).trans hKDH2.out
      have cr := hK.out.cr
      have fr := hK.out.fr
      have hDw : w.heap.size + 1 + 1 < D := by omega
      clear hb9 hK5 hS5 ck cm cw ct5 hDb hKDH2 hb5
      obtain ⟨W9, hW9⟩ : ∃ W9, W8.alloc (.cells #[.int .i64 2] 3) = W9 := ⟨_, rfl⟩
      rw [hW9] at hK ct hDk hDk2 cr fr ⊢
      clear hW9
      gi_wp2_with (first
        | (refine ⟨trivial, ?_⟩; gi_at_call 16; refine (callsIn_wide.2 (known_1 _ (hTH.out.below hpos hK.out.below))).mono ?_; rintro e w3 ⟨rfl, hb⟩; replace hDk := Lib.hid ((hb.block D (Array.getElem?_eq_some_iff.1 hDk.out).1).trans hDk.out); replace hDk2 := Lib.hid ((hb.block D2 (Array.getElem?_eq_some_iff.1 hDk2.out).1).trans hDk2.out); replace hK := Lib.hid (hK.out.next hb); replace cr := hK.out.cr; replace fr := hK.out.fr; clear hb)
        | (refine ⟨trivial, ?_⟩))
      have hk2 : (w3.setCell ⟨w.heap.size + 1 + 1, 0, none⟩ (.bool true)).heap[D2]? = some (.deferred (some [])) := (KeepsOthers.setCell _ _ _).same _ _ hDk2.out rfl
      have hk1 : ((w3.setCell ⟨w.heap.size + 1 + 1, 0, none⟩ (.bool true)).putObj D2 (.deferred none)).heap[D]? = some (.deferred (some [])) := (World.putObj_heap_other (by omega)).trans ((KeepsOthers.setCell _ _ _).same _ _ hDk.out rfl)
      have hres : (((w3.setCell ⟨w.heap.size + 1 + 1, 0, none⟩ (.bool true)).putObj D2 (.deferred none)).putObj D (.deferred none)).cell? ⟨w.heap.size + 1 + 1, 0, none⟩ = some (.bool true) := (cell_putObj (by omega)).trans ((cell_putObj (by omega)).trans (World.cell?_setCell_same' _ _ _ (by rw [cr]; rfl)))
      refine ⟨by simp, .inl ⟨_, _, rfl, run_takeDeferred hk2, ⟨by simp, .inl ⟨_, _, rfl, run_takeDeferred hk1, ?_⟩⟩⟩⟩
      exact ⟨_, by simp [results, Tryd.results9, go_sem, hres], rfl, ((hK.out.below.setCell (p := ⟨w.heap.size + 1 + 1, 0, none⟩) (by dsimp only; omega) _).trans (belowK_b (w := w) (Nat.le_refl _) _ D2 _ _ (by omega) hk2 rfl rfl)).trans (belowK_b (w := w) (Nat.le_refl _) _ D _ _ (by omega) hk1 rfl rfl)⟩
end Go.Proofs.YtjjchodcoeciaaaDoor
