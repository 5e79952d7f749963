/- Layer 35: ThemeHolds: trees that are not valid. -/
import Derived.Test.YteaclphankckiaaTan
import Derived.Deep.RegionHeld3
namespace Go.Proofs.Yteaclphankckiaa
open Go Go.RowKit
set_option linter.unusedSimpArgs false
set_option linter.unusedVariables false
attribute [local go_sem ↓] Go.wp_at_zero Go.wp_at_succ
theorem pfind_any (f q : Int) (bk : Bool) (At : Option Addr) (t : List Nd) (ct : Nat) (w : World) (hT : RecAt nEnc 4 w w.heap.size At t) (hl : t.length ≤ 990) :
    Calls Try.prog 14 #[.agg #[.int .i64 f, .int .i64 q], .bool bk, .slice At t.length ct] w fun e w' => ∃ A n c z, e = .returned (.tuple #[.slice A n c, .int .i64 z]) ∧ Below w.heap.size w w' := by
  cases hv : treeB f q t with
  | false =>
    refine (pfind_no f q bk At t ct w hT (by omega) hv).mono ?_
    rintro e w' ⟨rfl, h⟩
    exact ⟨_, _, _, _, rfl, h⟩
  | true =>
    refine (pfind_yes f q bk At t ct w hT hl hv).mono ?_
    rintro e w' ⟨A, c, rfl, _, h⟩
    exact ⟨_, _, _, _, rfl, h⟩
set_option maxRecDepth 100000 in
set_option maxHeartbeats 4000000 in
theorem holds_inv (f q : Int) (bk : Bool) (A : Option Addr) (t : List Nd) (c : Nat) (kp : Int) (w : World) (hT : RecAt nEnc 4 w w.heap.size A t) (hc : t.length ≤ c) (hcm : c ≤ maxLen) (K : Nat) (hk0 : K ≤ t.length) (hkp0 : (K : Int) = kp) (hl : (t.length : Int) ≤ 100) (hv0 : treeB f q t = false) :
    Calls Try.prog 6 #[.agg #[.int .i64 f, .int .i64 q], .bool bk, .slice A t.length c, .int .i64 kp] w fun e w' => e = .returned (.bool true) ∧ Below w.heap.size w w' := by
  have hv := Lib.hid hv0
  have hkp := Lib.hid hkp0
  have hkp1 : kp ≤ (t.length : Int) := by omega
  have hkp2 : 0 ≤ kp := by omega
  have hkc : kp ≤ (c : Int) := by omega
  have hkn : kp.toNat = K := by omega
  have hKc : K ≤ c := by omega
  have hKt : K ≤ t.length := hk0
  have htl : (t.take K).length = K := by rw [List.length_take]; omega
  have hpf : Hid (∀ W, Below w.heap.size w W → ∀ (c2 : Nat), Calls Try.prog 14 #[.agg #[.int .i64 f, .int .i64 q], .bool bk, .slice A K c2] W fun e w' => ∃ A n c z, e = .returned (.tuple #[.slice A n c, .int .i64 z]) ∧ Below W.heap.size W w') := fun W hb c2 => by
    have h := pfind_any f q bk A (t.take K) c2 W (recs_tk ((hT.below (Nat.le_refl _) hb).more hb.size) K) (by omega)
    rwa [htl] at h
  clear hv0 hkp0 hk0 htl
  have hS := Lib.hid (Sz2.new w f q 23)
  have hb1 : Hid (Below w.heap.size w (w.alloc (.cells #[.int .i64 f, .int .i64 q] 23))) := (Below.refl _ _).alloc (Nat.le_refl _) _
  have hT1 := Lib.hid ((hT.below (Nat.le_refl _) hb1.out).more hb1.out.size)
  have hs1 : w.heap.size < (w.alloc (.cells #[.int .i64 f, .int .i64 q] 23)).heap.size := by simp
  clear hT
  go_enter Try.func6, Try.ntmps6
  go_upto_region 1 with fail
  generalize w.alloc (.cells #[.int .i64 f, .int .i64 q] 23) = w1 at *
  have c0 := hS.out.c0
  have c1 := hS.out.c1
  go_wp2_with fail
  go_at_call 14
  refine (pfind_no f q bk A t c w1 hT1.out (by omega) hv.out).mono ?_
  rintro e w2 ⟨rfl, hb2⟩
  replace hS := Lib.hid (hS.out.next hb2)
  replace hT1 := Lib.hid ((hT1.out.below (Nat.le_refl _) hb2).more hb2.size)
  replace hb1 := Lib.hid (hb1.out.trans (hb2.mono hb1.out.size))
  replace c0 := hS.out.c0
  replace c1 := hS.out.c1
  clear hb2
  have hC : Hid (∀ W, Below w2.heap.size w2 W → W.cell? ⟨w.heap.size, 0, none⟩ = some (.int .i64 f) ∧ W.cell? ⟨w.heap.size, 1, none⟩ = some (.int .i64 q)) := fun W h => ⟨(hS.out.next h).c0, (hS.out.next h).c1⟩
  go_upto_region 4 with fail
  refine wp_region_held_drew (S := (fun w' => w'.cell? ⟨w.heap.size, 0, none⟩ = some (.int .i64 f) ∧ w'.cell? ⟨w.heap.size, 1, none⟩ = some (.int .i64 q))) (by kernel_rfl) (hC.out _ ((Below.refl _ _).drew)) (fun hHeld => ?_)
  refine wpAnyH_take (i := 0) (v := ?_) rfl (by kernel_rfl) (by kernel_rfl) (by kernel_rfl) (fun _ _ _ h => h) (Or.inl ⟨by rfl, ?_⟩) hHeld ?_
  rotate_left
  · intro W9 hSw; (try dsimp only at hSw); go_simp; (try with_reducible rfl)
  simp only [Act.put, List.getElem_toArray, List.getElem_cons_zero, List.getElem_cons_succ, List.setIfInBounds_toArray, List.set_cons_zero, List.set_cons_succ]
  refine wpAnyH_take (i := 1) (v := ?_) rfl (by kernel_rfl) (by kernel_rfl) (by kernel_rfl) (fun _ _ _ h => h) (Or.inl ⟨by rfl, ?_⟩) hHeld ?_
  rotate_left
  · intro W9 hSw; (try dsimp only at hSw); go_simp; (try with_reducible rfl)
  simp only [Act.put, List.getElem_toArray, List.getElem_cons_zero, List.getElem_cons_succ, List.setIfInBounds_toArray, List.set_cons_zero, List.set_cons_succ]
  refine wpAnyH_take (i := 2) (v := ?_) rfl (by kernel_rfl) (by kernel_rfl) (by kernel_rfl) (fun _ _ _ h => h) (Or.inl ⟨by rfl, ?_⟩) hHeld ?_
  rotate_left
  · intro W9 hSw; (try dsimp only at hSw); go_simp; (try with_reducible rfl)
  simp only [Act.put, List.getElem_toArray, List.getElem_cons_zero, List.getElem_cons_succ, List.setIfInBounds_toArray, List.set_cons_zero, List.set_cons_succ]
  refine wpAnyH_take (i := 3) (v := ?_) rfl (by kernel_rfl) (by kernel_rfl) (by kernel_rfl) (fun _ _ _ h => h) (Or.inl ⟨by rfl, ?_⟩) hHeld ?_
  rotate_left
  · intro W9 hSw; (try dsimp only at hSw); go_simp; (try with_reducible rfl)
  simp only [Act.put, List.getElem_toArray, List.getElem_cons_zero, List.getElem_cons_succ, List.setIfInBounds_toArray, List.set_cons_zero, List.set_cons_succ]
  refine wpAnyH_take (i := 4) (v := ?_) rfl (by kernel_rfl) (by kernel_rfl) (by kernel_rfl) (fun _ _ _ h => h) (Or.inl ⟨by rfl, ?_⟩) hHeld ?_
  rotate_left
  · intro W9 hSw; (try dsimp only at hSw); go_simp; (try with_reducible rfl)
  simp only [Act.put, List.getElem_toArray, List.getElem_cons_zero, List.getElem_cons_succ, List.setIfInBounds_toArray, List.set_cons_zero, List.set_cons_succ]
  refine wpAnyH_ready (rs := [5]) (by kernel_rfl) (by simp) ?_
  refine AllReadyH.cons rfl (fun K hK => ?_) AllReadyH.nil
  go_simp
  go_at_call 14
  refine (hpf.out _ (hb1.out.trans (((Below.refl _ _).drew).mono hb1.out.size)) c).mono ?_
  rintro e w3 ⟨A3, n3, c3, z3, rfl, hb3⟩
  replace hb3 := Lib.hid (undrew hb3)
  refine hK.out _ _ (hC.out _ hb3.out) (fun hHeld2 => ?_)
  clear hK K hHeld
  have hHeld := hHeld2
  clear hHeld2
  refine wpAnyH_take (i := 6) (v := ?_) rfl (by kernel_rfl) (by kernel_rfl) (by kernel_rfl) (fun _ _ _ h => h) (Or.inl ⟨by rfl, ?_⟩) hHeld ?_
  rotate_left
  · intro W9 hSw; (try dsimp only at hSw); go_simp; (try with_reducible rfl)
  simp only [Act.put, List.getElem_toArray, List.getElem_cons_zero, List.getElem_cons_succ, List.setIfInBounds_toArray, List.set_cons_zero, List.set_cons_succ]
  refine wpAnyH_take (i := 7) (v := ?_) rfl (by kernel_rfl) (by kernel_rfl) (by kernel_rfl) (fun _ _ _ h => h) (Or.inl ⟨by rfl, ?_⟩) hHeld ?_
  rotate_left
  · intro W9 hSw; (try dsimp only at hSw); go_simp; (try with_reducible rfl)
  simp only [Act.put, List.getElem_toArray, List.getElem_cons_zero, List.getElem_cons_succ, List.setIfInBounds_toArray, List.set_cons_zero, List.set_cons_succ]
  refine wpAnyH_take (i := 8) (v := ?_) rfl (by kernel_rfl) (by kernel_rfl) (by kernel_rfl) (fun _ _ _ h => h) (Or.inl ⟨by rfl, ?_⟩) hHeld ?_
  rotate_left
  · intro W9 hSw; (try dsimp only at hSw); go_simp; (try with_reducible rfl)
  simp only [Act.put, List.getElem_toArray, List.getElem_cons_zero, List.getElem_cons_succ, List.setIfInBounds_toArray, List.set_cons_zero, List.set_cons_succ]
  refine wpAnyH_take (i := 9) (v := ?_) rfl (by kernel_rfl) (by kernel_rfl) (by kernel_rfl) (fun _ _ _ h => h) (Or.inl ⟨by rfl, ?_⟩) hHeld ?_
  rotate_left
  · intro W9 hSw; (try dsimp only at hSw); go_simp; (try with_reducible rfl)
  simp only [Act.put, List.getElem_toArray, List.getElem_cons_zero, List.getElem_cons_succ, List.setIfInBounds_toArray, List.set_cons_zero, List.set_cons_succ]
  refine wpAnyH_take (i := 10) (v := ?_) rfl (by kernel_rfl) (by kernel_rfl) (by kernel_rfl) (fun _ _ _ h => h) (Or.inl ⟨by rfl, ?_⟩) hHeld ?_
  rotate_left
  · intro W9 hSw; (try dsimp only at hSw); go_simp; (try with_reducible rfl)
  simp only [Act.put, List.getElem_toArray, List.getElem_cons_zero, List.getElem_cons_succ, List.setIfInBounds_toArray, List.set_cons_zero, List.set_cons_succ]
  refine wpAnyH_done (by kernel_rfl) ?_ _
  clear hHeld
  clear hC hpf
  replace hS := Lib.hid (hS.out.next hb3.out)
  replace hT1 := Lib.hid ((hT1.out.below (Nat.le_refl _) hb3.out).more hb3.out.size)
  replace hb1 := Lib.hid (hb1.out.trans (hb3.out.mono hb1.out.size))
  replace c0 := hS.out.c0
  replace c1 := hS.out.c1
  clear hb3
  go_wp2_with fail
  go_at_call 21
  refine (ptree f q A t c w3 hT1.out (by omega)).mono ?_
  rw [hv.out]
  rintro e w4 ⟨rfl, hb4⟩
  replace hS := Lib.hid (hS.out.next hb4)
  replace hb1 := Lib.hid (hb1.out.trans (hb4.mono hb1.out.size))
  replace c0 := hS.out.c0
  replace c1 := hS.out.c1
  clear hb4
  go_wp2_with fail
  go_at_call 8
  refine (known_35 w4).mono ?_
  rintro e wk ⟨rfl, hbk⟩
  replace hS := Lib.hid (hS.out.next hbk)
  replace hb1 := Lib.hid (hb1.out.trans (hbk.mono hb1.out.size))
  replace c0 := hS.out.c0
  replace c1 := hS.out.c1
  clear hbk
  go_wp2_with fail
  go_ret
  exact ⟨rfl, hb1.out⟩
end Go.Proofs.Yteaclphankckiaa
