/- Layer 35: which trees are valid: the references'. -/
import Derived.Test.YteaclphankckiaaTz
import Derived.BigRegion
namespace Go.Proofs.Yteaclphankckiaa
open Go Go.RowKit
set_option linter.unusedSimpArgs false
set_option linter.unusedVariables false
attribute [local go_sem ↓] Go.wp_at_zero Go.wp_at_succ

set_option maxRecDepth 100000 in
set_option maxHeartbeats 4000000 in
theorem rtree0 (f q : Int) (A : Option Addr) (t : List Nd) (c : Nat) (w : World) (hT : RecAt nEnc 4 w w.heap.size A t) (hl : t.length ≤ 1000) (hc : t.length ≤ c) :
    Calls Try.prog 47 #[.agg #[.int .i64 f, .int .i64 q], .slice A t.length c] w fun e w' => e = .returned (.bool (treeB f q t)) ∧ Below w.heap.size w w' := by
  have hTH := Lib.hid hT
  have hS := Lib.hid (Sz2.new w f q 23)
  have hb1 : Hid (Below w.heap.size w (w.alloc (.cells #[.int .i64 f, .int .i64 q] 23))) := (Below.refl _ _).alloc (Nat.le_refl _) _
  have hs1 : w.heap.size < (w.alloc (.cells #[.int .i64 f, .int .i64 q] 23)).heap.size := by simp
  have hfl : ((100000 : Int) < (t.length : Int)) = False := by rw [eq_iff_iff, iff_false]; omega
  clear hT
  cases hz : szB f q with
  | true =>
    have hzH := Lib.hid hz
    go_enter Try.func47, Try.ntmps47
    go_upto_region 1 with fail
    generalize w.alloc (.cells #[.int .i64 f, .int .i64 q] 23) = w1 at *
    have c0 := hS.out.c0
    have c1 := hS.out.c1
    go_wp2_with (go_at_call 55; refine (rsize _ _ _).mono ?_; rintro e w2 ⟨rfl, hbv⟩; rw [hz]; replace hbv := Lib.hid hbv)
    have hb3 : Hid (Below w.heap.size w w2) := hb1.out.trans (hbv.out.mono (by omega))
    have hS3 := Lib.hid (hS.out.next hbv.out)
    have hs3 : w.heap.size < w2.heap.size := hS3.out.lt
    clear c0 c1 hS hbv hs1 hb1 hz
    go_loopw [5] (fun i wr => ∃ k : Nat, k ≤ t.length ∧ i = .int .i64 k ∧ Hid (okK f q t k = true) ∧ Hid (Below w2.heap.size w2 wr)) (fun i _ => t.length - (intOf i).toNat)
    case atStart => exact ⟨0, Nat.zero_le _, rfl, rfl, Below.refl _ _⟩
    case round =>
      obtain ⟨k, hk, rfl, hok, hbr⟩ := hrel
      have hbw : Hid (Below w.heap.size w wr) := hb3.out.trans (hbr.out.mono (by omega))
      have hsr : w.heap.size < wr.heap.size := Nat.lt_of_lt_of_le hs3 hbr.out.size
      by_cases hkn : k < t.length
      · obtain ⟨x, hx⟩ : ∃ x, t[k]? = some x := ⟨_, List.getElem?_eq_getElem hkn⟩
        have hTr : Hid (RecAt nEnc 4 wr wr.heap.size A t) := (hTH.out.below (Nat.le_refl _) hbw.out).more hbw.out.size
        obtain ⟨bT, oT, rfl, hbT, m0, m1, m2, m3⟩ := nd4 hTr.out hx
        have hSr := Lib.hid (hS3.out.next hbr.out)
        have c0 := hSr.out.c0
        have c1 := hSr.out.c1
        have hki : (k : Int) < (t.length : Int) := by omega
        have hk0 : (0 : Int) ≤ (k : Int) := Int.natCast_nonneg _
        obtain ⟨t0, t1⟩ := okK_ply hok.out (Nat.le_refl k)
        have hft : Hid (∀ W, Below wr.heap.size wr W → Calls Try.prog 57 #[.slice (some ⟨bT, oT, none⟩) t.length c, .int .i64 (k : Int)] W fun e w' => e = .returned (.bool (fitB (back t k) x)) ∧ Below W.heap.size W w') := fun W hb =>
          rfits _ t c k x W ((hTr.out.below (Nat.le_refl _) hb).more hb.size) hl hc hx (okK_chain hok.out (Nat.le_refl k)) t0 (by omega)
        have hno := Lib.hid (fun h => treeB_no (f := f) (q := q) hx h)
        have hsu := Lib.hid (okK_succ (f := f) (q := q) hx)
        clear m0 t0 t1
        replace hx := Lib.hid hx
        obtain ⟨p, a, b, pr⟩ := x
        have m1' : wr.cell? ⟨bT, oT + k * 4 + 1, none⟩ = some (.int .i64 a) := m1
        have m2' : wr.cell? ⟨bT, oT + k * 4 + 2, none⟩ = some (.int .i64 b) := m2
        have m3' : wr.cell? ⟨bT, oT + k * 4 + 3, none⟩ = some (.int .i8 pr) := m3
        clear m1 m2 m3
        have hC : Hid (∀ w' : World, Below wr.heap.size wr w' → w'.cell? ⟨w.heap.size, 0, none⟩ = some (.int .i64 f) ∧ w'.cell? ⟨w.heap.size, 1, none⟩ = some (.int .i64 q) ∧ w'.cell? ⟨bT, oT + k * 4 + 1, none⟩ = some (.int .i64 a) ∧ w'.cell? ⟨bT, oT + k * 4 + 2, none⟩ = some (.int .i64 b) ∧ w'.cell? ⟨bT, oT + k * 4 + 3, none⟩ = some (.int .i8 pr)) := fun W h =>
          ⟨(h.cell (p := ⟨w.heap.size, 0, none⟩) hsr).trans c0, (h.cell (p := ⟨w.heap.size, 1, none⟩) hsr).trans c1, (h.cell (p := ⟨bT, oT + k * 4 + 1, none⟩) hbT).trans m1', (h.cell (p := ⟨bT, oT + k * 4 + 2, none⟩) hbT).trans m2', (h.cell (p := ⟨bT, oT + k * 4 + 3, none⟩) hbT).trans m3'⟩
        cases hmv : mvB f q a b pr with
        | false =>
          have hf := Lib.hid (hno.out (nodeB_mv hmv))
          clear hno hsu hft
          go_upto_region 6 with fail
          refine wp_region_held_drew (S := (fun w' => w'.cell? ⟨w.heap.size, 0, none⟩ = some (.int .i64 f) ∧ w'.cell? ⟨w.heap.size, 1, none⟩ = some (.int .i64 q) ∧ w'.cell? ⟨bT, oT + k * 4 + 1, none⟩ = some (.int .i64 a) ∧ w'.cell? ⟨bT, oT + k * 4 + 2, none⟩ = some (.int .i64 b) ∧ w'.cell? ⟨bT, oT + k * 4 + 3, none⟩ = some (.int .i8 pr))) (by kernel_rfl) (hC.out _ ((Below.refl _ _).drew)) (fun hHeld => ?_)
          refine wpAnyH_take (i := 0) (v := ?_) rfl (by kernel_rfl) (by kernel_rfl) (by kernel_rfl) (fun _ _ _ h => h) (Or.inl ⟨by rfl, ?_⟩) hHeld ?_
          rotate_left
          · intro W9 hSw; (try dsimp only at hSw); go_simp; (try with_reducible rfl)
          simp only [Act.put, List.setIfInBounds_toArray, List.set_cons_zero, List.set_cons_succ]
          refine wpAnyH_take (i := 1) (v := ?_) rfl (by kernel_rfl) (by kernel_rfl) (by kernel_rfl) (fun _ _ _ h => h) (Or.inl ⟨by rfl, ?_⟩) hHeld ?_
          rotate_left
          · intro W9 hSw; (try dsimp only at hSw); go_simp; (try with_reducible rfl)
          simp only [Act.put, List.setIfInBounds_toArray, List.set_cons_zero, List.set_cons_succ]
          refine wpAnyH_take (i := 2) (v := ?_) rfl (by kernel_rfl) (by kernel_rfl) (by kernel_rfl) (fun _ _ _ h => h) (Or.inl ⟨by rfl, ?_⟩) hHeld ?_
          rotate_left
          · intro W9 hSw; (try dsimp only at hSw); go_simp; (try with_reducible rfl)
          simp only [Act.put, List.setIfInBounds_toArray, List.set_cons_zero, List.set_cons_succ]
          refine wpAnyH_take (i := 3) (v := ?_) rfl (by kernel_rfl) (by kernel_rfl) (by kernel_rfl) (fun _ _ _ h => h) (Or.inl ⟨by rfl, ?_⟩) hHeld ?_
          rotate_left
          · intro W9 hSw; (try dsimp only at hSw); go_simp; (try with_reducible rfl)
          simp only [Act.put, List.setIfInBounds_toArray, List.set_cons_zero, List.set_cons_succ]
          refine wpAnyH_take (i := 4) (v := ?_) rfl (by kernel_rfl) (by kernel_rfl) (by kernel_rfl) (fun _ _ _ h => h) (Or.inl ⟨by rfl, ?_⟩) hHeld ?_
          rotate_left
          · intro W9 hSw; (try dsimp only at hSw); go_simp; (try with_reducible rfl)
          simp only [Act.put, List.setIfInBounds_toArray, List.set_cons_zero, List.set_cons_succ]
          refine wpAnyH_take (i := 5) (v := ?_) rfl (by kernel_rfl) (by kernel_rfl) (by kernel_rfl) (fun _ _ _ h => h) (Or.inl ⟨by rfl, ?_⟩) hHeld ?_
          rotate_left
          · intro W9 hSw; (try dsimp only at hSw); go_simp; (try with_reducible rfl)
          simp only [Act.put, List.setIfInBounds_toArray, List.set_cons_zero, List.set_cons_succ]
          refine wpAnyH_ready (rs := [6]) (by kernel_rfl) (by simp) ?_
          refine AllReadyH.cons rfl (fun K hK => ?_) AllReadyH.nil
          go_simp
          go_at_call 58
          refine (rmvalid _ _ _ _ _ _).mono ?_
          rintro e w5 ⟨rfl, hbv⟩
          rw [hmv]
          replace hbv := Lib.hid (undrew hbv)
          refine hK.out _ _ (hC.out _ hbv.out) (fun hHeld2 => ?_)
          clear hK K hHeld
          have hHeld := hHeld2
          clear hHeld2
          refine wpAnyH_take (i := 7) (v := ?_) rfl (by kernel_rfl) (by kernel_rfl) (by kernel_rfl) (fun _ _ _ h => h) (Or.inl ⟨by rfl, ?_⟩) hHeld ?_
          rotate_left
          · intro W9 hSw; (try dsimp only at hSw); go_simp; (try with_reducible rfl)
          simp only [Act.put, List.setIfInBounds_toArray, List.set_cons_zero, List.set_cons_succ]
          refine wpAnyH_take (i := 8) (v := ?_) rfl (by kernel_rfl) (by kernel_rfl) (by kernel_rfl) (fun _ _ _ h => h) (Or.inl ⟨by rfl, ?_⟩) hHeld ?_
          rotate_left
          · intro W9 hSw; (try dsimp only at hSw); go_simp; (try with_reducible rfl)
          simp only [Act.put, List.setIfInBounds_toArray, List.set_cons_zero, List.set_cons_succ]
          refine wpAnyH_take (i := 9) (v := undef) rfl (by kernel_rfl) (by kernel_rfl) (by kernel_rfl) (fun _ _ _ h => h) (Or.inr ⟨by rfl, rfl⟩) hHeld ?_
          simp only [Act.put, List.setIfInBounds_toArray, List.set_cons_zero, List.set_cons_succ]
          refine wpAnyH_take (i := 10) (v := undef) rfl (by kernel_rfl) (by kernel_rfl) (by kernel_rfl) (fun _ _ _ h => h) (Or.inr ⟨by rfl, rfl⟩) hHeld ?_
          simp only [Act.put, List.setIfInBounds_toArray, List.set_cons_zero, List.set_cons_succ]
          refine wpAnyH_take (i := 11) (v := undef) rfl (by kernel_rfl) (by kernel_rfl) (by kernel_rfl) (fun _ _ _ h => h) (Or.inr ⟨by rfl, rfl⟩) hHeld ?_
          simp only [Act.put, List.setIfInBounds_toArray, List.set_cons_zero, List.set_cons_succ]
          refine wpAnyH_take (i := 12) (v := undef) rfl (by kernel_rfl) (by kernel_rfl) (by kernel_rfl) (fun _ _ _ h => h) (Or.inr ⟨by rfl, rfl⟩) hHeld ?_
          simp only [Act.put, List.setIfInBounds_toArray, List.set_cons_zero, List.set_cons_succ]
          refine wpAnyH_take (i := 13) (v := ?_) rfl (by kernel_rfl) (by kernel_rfl) (by kernel_rfl) (fun _ _ _ h => h) (Or.inl ⟨by rfl, ?_⟩) hHeld ?_
          rotate_left
          · intro W9 hSw; (try dsimp only at hSw); go_simp; (try with_reducible rfl)
          simp only [Act.put, List.setIfInBounds_toArray, List.set_cons_zero, List.set_cons_succ]
          refine wpAnyH_done (by kernel_rfl) ?_ _
          clear hHeld hC
          go_wp2_with fail
          go_ret
          exact ⟨rb hf.out.symm, hbw.out.trans (hbv.out.mono hbw.out.size)⟩
        | true =>
          cases hfit : fitB (back t k) (p, a, b, pr) with
          | false =>
            have hf := Lib.hid (hno.out (nodeB_fit hfit))
            rw [hfit] at hft
            clear hno hsu
            go_upto_region 6 with fail
            go_region_held3 (fun w' => w'.cell? ⟨w.heap.size, 0, none⟩ = some (.int .i64 f) ∧ w'.cell? ⟨w.heap.size, 1, none⟩ = some (.int .i64 q) ∧ w'.cell? ⟨bT, oT + k * 4 + 1, none⟩ = some (.int .i64 a) ∧ w'.cell? ⟨bT, oT + k * 4 + 2, none⟩ = some (.int .i64 b) ∧ w'.cell? ⟨bT, oT + k * 4 + 3, none⟩ = some (.int .i8 pr)) (first | go_keep | exact hC.out _ hbv2.out | exact hC.out _ hbv.out)
              (first
                | (go_at_call 58; refine (rmvalid _ _ _ _ _ _).mono ?_; rintro e w5 ⟨rfl, hbv⟩; rw [hmv]; replace hbv := Lib.hid (undrew hbv))
                | (go_at_call 57; refine (hft.out w5 hbv.out).mono ?_; rintro e w6 ⟨rfl, hbv2⟩; replace hbv2 := Lib.hid (hbv.out.trans (hbv2.mono hbv.out.size))))
            go_wp2_with fail
            go_ret
            exact ⟨rb hf.out.symm, hbw.out.trans (hbv2.out.mono hbw.out.size)⟩
          | true =>
            have hok2 : Hid (okK f q t (k + 1) = true) := by
              show _ = _
              rw [hsu.out, hok.out, Bool.true_and]
              unfold nodeB
              rw [hfit, Bool.and_true]
              exact hmv
            rw [hfit] at hft
            clear hno hsu
            go_upto_region 6 with fail
            go_region_held3 (fun w' => w'.cell? ⟨w.heap.size, 0, none⟩ = some (.int .i64 f) ∧ w'.cell? ⟨w.heap.size, 1, none⟩ = some (.int .i64 q) ∧ w'.cell? ⟨bT, oT + k * 4 + 1, none⟩ = some (.int .i64 a) ∧ w'.cell? ⟨bT, oT + k * 4 + 2, none⟩ = some (.int .i64 b) ∧ w'.cell? ⟨bT, oT + k * 4 + 3, none⟩ = some (.int .i8 pr)) (first | go_keep | exact hC.out _ hbv2.out | exact hC.out _ hbv.out)
              (first
                | (go_at_call 58; refine (rmvalid _ _ _ _ _ _).mono ?_; rintro e w5 ⟨rfl, hbv⟩; rw [hmv]; replace hbv := Lib.hid (undrew hbv))
                | (go_at_call 57; refine (hft.out w5 hbv.out).mono ?_; rintro e w6 ⟨rfl, hbv2⟩; replace hbv2 := Lib.hid (hbv.out.trans (hbv2.mono hbv.out.size))))
            go_wp2_with fail
            go_roundw
            case rel => exact ⟨k + 1, by omega, by go_num, hok2, hbr.out.trans (hbv2.out.mono hbr.out.size)⟩
            case measure => simp [intOf]; omega
      · obtain rfl : k = t.length := by omega
        have hf : Hid (treeB f q t = true) := by show _ = _; unfold treeB; rw [hzH.out, hok.out]; rfl
        go_wp2_with fail
        go_ret
        exact ⟨rb hf.out.symm, hbw.out⟩
  | false =>
    have hf := Lib.hid (treeB_sz (t := t) hz)
    go_enter Try.func47, Try.ntmps47
    go_upto_region 1 with fail
    generalize w.alloc (.cells #[.int .i64 f, .int .i64 q] 23) = w1 at *
    have c0 := hS.out.c0
    have c1 := hS.out.c1
    go_wp2_with (go_at_call 55; refine (rsize _ _ _).mono ?_; rintro e w2 ⟨rfl, hbv⟩; rw [hz]; replace hbv := Lib.hid hbv)
    go_ret
    exact ⟨rb hf.out.symm, hb1.out.trans (hbv.out.mono (by omega))⟩
theorem rtree1 (f q : Int) (A : Option Addr) (t : List Nd) (c : Nat) (w : World) (hT : RecAt nEnc 4 w w.heap.size A t) (hl : t.length ≤ 1000) (hc : t.length ≤ c) :
    Calls Try.prog 31 #[.agg #[.int .i64 f, .int .i64 q], .slice A t.length c] w fun e w' => e = .returned (.bool (treeB f q t)) ∧ Below w.heap.size w w' := by
  have hS := Lib.hid (Sz2.new w f q 23)
  have hb1 : Hid (Below w.heap.size w (w.alloc (.cells #[.int .i64 f, .int .i64 q] 23))) := (Below.refl _ _).alloc (Nat.le_refl _) _
  have hs1 : w.heap.size < (w.alloc (.cells #[.int .i64 f, .int .i64 q] 23)).heap.size := by simp
  have hT1 := Lib.hid ((hT.below (Nat.le_refl _) hb1.out).more hb1.out.size)
  clear hT
  go_enter Try.func31, Try.ntmps31
  go_upto_region 1 with fail
  generalize w.alloc (.cells #[.int .i64 f, .int .i64 q] 23) = w1 at *
  have c0 := hS.out.c0
  have c1 := hS.out.c1
  go_wp2_with (go_at_call 47; refine (rtree0 _ _ _ _ _ _ hT1.out hl hc).mono ?_; rintro e w' ⟨rfl, hbv⟩; replace hbv := Lib.hid hbv)
  go_ret
  exact ⟨rfl, hb1.out.trans (hbv.out.mono (by omega))⟩
theorem rtree (f q : Int) (A : Option Addr) (t : List Nd) (c : Nat) (w : World) (hT : RecAt nEnc 4 w w.heap.size A t) (hl : t.length ≤ 1000) (hc : t.length ≤ c) :
    Calls Try.prog 11 #[.agg #[.int .i64 f, .int .i64 q], .slice A t.length c] w fun e w' => e = .returned (.bool (treeB f q t)) ∧ Below w.heap.size w w' := by
  have hS := Lib.hid (Sz2.new w f q 23)
  have hb1 : Hid (Below w.heap.size w (w.alloc (.cells #[.int .i64 f, .int .i64 q] 23))) := (Below.refl _ _).alloc (Nat.le_refl _) _
  have hs1 : w.heap.size < (w.alloc (.cells #[.int .i64 f, .int .i64 q] 23)).heap.size := by simp
  have hT1 := Lib.hid ((hT.below (Nat.le_refl _) hb1.out).more hb1.out.size)
  clear hT
  go_enter Try.func11, Try.ntmps11
  go_upto_region 1 with fail
  generalize w.alloc (.cells #[.int .i64 f, .int .i64 q] 23) = w1 at *
  have c0 := hS.out.c0
  have c1 := hS.out.c1
  go_wp2_with (go_at_call 31; refine (rtree1 _ _ _ _ _ _ hT1.out hl hc).mono ?_; rintro e w' ⟨rfl, hbv⟩; replace hbv := Lib.hid hbv)
  go_ret
  exact ⟨rfl, hb1.out.trans (hbv.out.mono (by omega))⟩
end Go.Proofs.Yteaclphankckiaa
