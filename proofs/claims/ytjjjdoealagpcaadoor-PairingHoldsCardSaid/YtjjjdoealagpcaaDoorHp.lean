/- Layer 43: Check of the program. -/
import Derived.Test.YtjjjdoealagpcaaDoorHo
import Derived.BigRegion
import Derived.Deep.RegionHeld3
namespace Go.Proofs.YtjjjdoealagpcaaDoor
open Go Go.RowKit
set_option linter.unusedSimpArgs false
set_option linter.unusedVariables false
attribute [local go_sem ↓] Go.wp_at_zero Go.wp_at_succ
set_option maxRecDepth 100000 in
set_option maxHeartbeats 8000000 in
theorem pCheck_inv (A O V C : Option Addr) (l : List Ent) (o : List Int) (v : List Bool) (cc : List Int) (c co cv cq : Nat) (w : World) (hF : FH w A l c) (hM : RM w O V o v) (hC : RecAt iEnc 1 w w.heap.size C cc) (hol : o.length ≤ 100000) (hvl : v.length ≤ 100000) (hcl : cc.length ≤ 100000) (hv : ¬ okF l) : Calls Tryd.prog 26 #[.slice A l.length c, .agg #[.slice O o.length co, .slice V v.length cv], .slice C cc.length cq] w fun e w' => e = .returned (.int .i64 2) ∧ Below w.heap.size w w' := by
  have hX := Lib.hid (RB.new w (.slice O o.length co) (.slice V v.length cv))
  have hb : Hid (Below w.heap.size w (w.alloc (.cells #[.slice O o.length co, .slice V v.length cv] 30))) := (Below.refl _ _).alloc (Nat.le_refl _) _
  have hVd : Hid (∀ W, Below w.heap.size w W → Calls Tryd.prog 10 #[.slice A l.length c] W fun e w' => e = .returned (.bool false) ∧ Below W.heap.size W w') := fun W h => fB_false hv ▸ (hF.next h).pvalid
  clear hF hM hC hv
  go_enter Tryd.func26, Tryd.ntmps26
  go_upto_region 1 with fail
  generalize w.heap.size = B0 at hX ⊢
  generalize w.alloc (.cells #[.slice O o.length co, .slice V v.length cv] 30) = u at *
  go_wp2_with fail
  go_at_call 10
  refine (hVd.out _ hb.out).mono ?_
  rintro e u ⟨rfl, hbn⟩
  replace hX := Lib.hid (hX.out.next hbn)
  replace hb := Lib.hid (hb.out.trans (hbn.mono hb.out.size))
  clear hbn hVd
  go_wp2_with fail
  go_ret
  exact ⟨rfl, hb.out⟩
set_option maxRecDepth 100000 in
set_option maxHeartbeats 8000000 in
theorem ck_no (A O V C : Option Addr) (l : List Ent) (o : List Int) (v : List Bool) (cc : List Int) (c co cv cq : Nat) (w : World) (hF : FH w A l c) (hM : RM w O V o v) (hC : RecAt iEnc 1 w w.heap.size C cc) (hol : o.length ≤ 100000) (hvl : v.length ≤ 100000) (hcl : cc.length ≤ 100000) (hv : okF l) (h7 : l.length ≤ 7) (hT : TabOK w) (hval : valR l o v = -1) : Calls Tryd.prog 26 #[.slice A l.length c, .agg #[.slice O o.length co, .slice V v.length cv], .slice C cc.length cq] w fun e w' => e = .returned (.int .i64 (chkE l o v cc)) ∧ Below w.heap.size w w' := by
  have hX := Lib.hid (RB.new w (.slice O o.length co) (.slice V v.length cv))
  have hb : Hid (Below w.heap.size w (w.alloc (.cells #[.slice O o.length co, .slice V v.length cv] 30))) := (Below.refl _ _).alloc (Nat.le_refl _) _
  have hVd : Hid (∀ W, Below w.heap.size w W → Calls Tryd.prog 10 #[.slice A l.length c] W fun e w' => e = .returned (.bool true) ∧ Below W.heap.size W w') := fun W h => fB_true hv ▸ (hF.next h).pvalid
  have hps : Hid (∀ W, Calls Tryd.prog 34 #[.slice A l.length c] W fun e w' => e = .returned (.int .i64 (szE l : Int)) ∧ W = w') := fun W => psize A l c W hF.len
  obtain ⟨n, hn⟩ : ∃ n, szE l = n := ⟨_, rfl⟩
  have hn8 : n ≤ 8 := by have := (szE_le h7).1; omega
  have hn2 : 2 ≤ n := by have h := hv.1; have h2 : szE l = l.length + l.length % 2 := rfl; omega
  rw [hn] at hps
  obtain ⟨N, hN⟩ : ∃ N, 2 ^ n = N := ⟨_, rfl⟩
  have hN256 : N ≤ 256 := by rw [← hN]; exact full_lt hn8
  have hN4 : 4 ≤ N := by
    have h1 : 2 ^ 2 ≤ 2 ^ n := Nat.pow_le_pow_right (show 2 > 0 by decide) hn2
    omega
  have gN : IntKind.i64.wrap (2 ^ n) = (N : Int) := by
    have e : ((2 : Int) ^ n) = (N : Int) := by rw [← hN, Int.natCast_pow]; rfl
    rw [e]; exact i64_nat (by omega)
  have n0 : (0 : Int) ≤ (n : Int) := Int.natCast_nonneg _
  have n64 : (n : Int) ≤ 64 := by omega
  have hNs : 2 ^ szE l = N := by rw [hn]; exact hN
  obtain ⟨K, hK⟩ : ∃ K, valR l o v = K := ⟨_, rfl⟩
  have hCv : Hid (∀ W, Below w.heap.size w W → Calls Tryd.prog 40 #[.slice A l.length c, .agg #[.slice O o.length co, .slice V v.length cv]] W fun e w' => e = .returned (.int .i64 K) ∧ Below W.heap.size W w') := fun W h => hK ▸ pvalue A O V l o v c co cv W (hF.next h) hv (hM.next h) hol hvl
  have hE : Hid (chkE l o v cc = 10) := chkE_no fun h => h.1 hval
  have q1 : (K == -1) = true := by rw [beq_iff_eq, ← hK]; exact hval
  clear hF hM hC hv hT hK hN hn hNs hval
  go_enter Tryd.func26, Tryd.ntmps26
  go_upto_region 1 with fail
  generalize w.heap.size = B0 at hX ⊢
  generalize w.alloc (.cells #[.slice O o.length co, .slice V v.length cv] 30) = u at *
  go_wp2_with fail
  go_at_call 10
  refine (hVd.out _ hb.out).mono ?_
  rintro e u ⟨rfl, hbn⟩
  replace hX := Lib.hid (hX.out.next hbn)
  replace hb := Lib.hid (hb.out.trans (hbn.mono hb.out.size))
  clear hbn hVd
  go_wp2_with fail
  go_at_call 34
  refine (hps.out _).mono ?_
  rintro e u9 ⟨rfl, rfl⟩
  clear hps
  go_upto_region 4 with fail
  have hS : Hid (∀ W, Below u.heap.size u W → W.cell? ⟨B0, 0, none⟩ = some (.slice O o.length co) ∧ W.cell? ⟨B0, 1, none⟩ = some (.slice V v.length cv)) := fun W h => ⟨(hX.out.next h).c0, (hX.out.next h).c1⟩
  refine wp_region_held_drew (S := fun W => W.cell? ⟨B0, 0, none⟩ = some (.slice O o.length co) ∧ W.cell? ⟨B0, 1, none⟩ = some (.slice V v.length cv)) (by kernel_rfl) (hS.out _ ((Below.refl _ _).drew)) (fun hHeld => ?_)
  refine wpAnyH_take (i := 0) (v := ?_) rfl (by kernel_rfl) (by kernel_rfl) (by kernel_rfl) (fun _ _ _ h => h) (Or.inl ⟨by rfl, ?_⟩) hHeld ?_
  rotate_left
  · intro W9 hSw; (try dsimp only at hSw); go_simp; (try with_reducible rfl)
  simp only [Act.put, List.getElem_toArray, List.getElem_cons_zero, List.getElem_cons_succ, List.setIfInBounds_toArray, List.set_cons_zero, List.set_cons_succ]
  refine wpAnyH_take (i := 1) (v := ?_) rfl (by kernel_rfl) (by kernel_rfl) (by kernel_rfl) (fun _ _ _ h => h) (Or.inl ⟨by rfl, ?_⟩) hHeld ?_
  rotate_left
  · intro W9 hSw; (try dsimp only at hSw); go_simp; (try with_reducible rfl)
  simp only [Act.put, List.getElem_toArray, List.getElem_cons_zero, List.getElem_cons_succ, List.setIfInBounds_toArray, List.set_cons_zero, List.set_cons_succ]
  refine wpAnyH_ready (rs := [2]) (by kernel_rfl) (by simp) ?_
  refine AllReadyH.cons rfl (fun K hK => ?_) AllReadyH.nil
  go_simp
  go_at_call 40
  refine (hCv.out _ (hb.out.trans ((Below.refl _ _).drew.mono hb.out.size))).mono ?_
  rintro e w3 ⟨rfl, hb3⟩
  replace hb3 := Lib.hid (undrew hb3)
  refine hK.out _ _ (hS.out _ hb3.out) (fun hHeld2 => ?_)
  clear hK K hHeld
  have hHeld := hHeld2
  clear hHeld2
  refine wpAnyH_take (i := 3) (v := ?_) rfl (by kernel_rfl) (by kernel_rfl) (by kernel_rfl) (fun _ _ _ h => h) (Or.inl ⟨by rfl, ?_⟩) hHeld ?_
  rotate_left
  · intro W9 hSw; (try dsimp only at hSw); go_simp; (try with_reducible rfl)
  simp only [Act.put, List.getElem_toArray, List.getElem_cons_zero, List.getElem_cons_succ, List.setIfInBounds_toArray, List.set_cons_zero, List.set_cons_succ]
  refine wpAnyH_take (i := 4) (v := ?_) rfl (by kernel_rfl) (by kernel_rfl) (by kernel_rfl) (fun _ _ _ h => h) (Or.inl ⟨by rfl, ?_⟩) hHeld ?_
  rotate_left
  · intro W9 hSw; (try dsimp only at hSw); go_simp; (try with_reducible rfl)
  simp only [Act.put, List.getElem_toArray, List.getElem_cons_zero, List.getElem_cons_succ, List.setIfInBounds_toArray, List.set_cons_zero, List.set_cons_succ]
  refine wpAnyH_take (i := 5) (v := undef) rfl (by kernel_rfl) (by kernel_rfl) (by kernel_rfl) (fun _ _ _ h => h) (Or.inr ⟨by rfl, rfl⟩) hHeld ?_
  simp only [Act.put, List.getElem_toArray, List.getElem_cons_zero, List.getElem_cons_succ, List.setIfInBounds_toArray, List.set_cons_zero, List.set_cons_succ]
  refine wpAnyH_take (i := 6) (v := undef) rfl (by kernel_rfl) (by kernel_rfl) (by kernel_rfl) (fun _ _ _ h => h) (Or.inr ⟨by rfl, rfl⟩) hHeld ?_
  simp only [Act.put, List.getElem_toArray, List.getElem_cons_zero, List.getElem_cons_succ, List.setIfInBounds_toArray, List.set_cons_zero, List.set_cons_succ]
  refine wpAnyH_take (i := 7) (v := undef) rfl (by kernel_rfl) (by kernel_rfl) (by kernel_rfl) (fun _ _ _ h => h) (Or.inr ⟨by rfl, rfl⟩) hHeld ?_
  simp only [Act.put, List.getElem_toArray, List.getElem_cons_zero, List.getElem_cons_succ, List.setIfInBounds_toArray, List.set_cons_zero, List.set_cons_succ]
  refine wpAnyH_take (i := 8) (v := undef) rfl (by kernel_rfl) (by kernel_rfl) (by kernel_rfl) (fun _ _ _ h => h) (Or.inr ⟨by rfl, rfl⟩) hHeld ?_
  simp only [Act.put, List.getElem_toArray, List.getElem_cons_zero, List.getElem_cons_succ, List.setIfInBounds_toArray, List.set_cons_zero, List.set_cons_succ]
  refine wpAnyH_take (i := 9) (v := undef) rfl (by kernel_rfl) (by kernel_rfl) (by kernel_rfl) (fun _ _ _ h => h) (Or.inr ⟨by rfl, rfl⟩) hHeld ?_
  simp only [Act.put, List.getElem_toArray, List.getElem_cons_zero, List.getElem_cons_succ, List.setIfInBounds_toArray, List.set_cons_zero, List.set_cons_succ]
  refine wpAnyH_take (i := 10) (v := ?_) rfl (by kernel_rfl) (by kernel_rfl) (by kernel_rfl) (fun _ _ _ h => h) (Or.inl ⟨by rfl, ?_⟩) hHeld ?_
  rotate_left
  · intro W9 hSw; (try dsimp only at hSw); go_simp; (try with_reducible rfl)
  simp only [Act.put, List.getElem_toArray, List.getElem_cons_zero, List.getElem_cons_succ, List.setIfInBounds_toArray, List.set_cons_zero, List.set_cons_succ]
  refine wpAnyH_take (i := 11) (v := ?_) rfl (by kernel_rfl) (by kernel_rfl) (by kernel_rfl) (fun _ _ _ h => h) (Or.inl ⟨by rfl, ?_⟩) hHeld ?_
  rotate_left
  · intro W9 hSw; (try dsimp only at hSw); go_simp; (try with_reducible rfl)
  simp only [Act.put, List.getElem_toArray, List.getElem_cons_zero, List.getElem_cons_succ, List.setIfInBounds_toArray, List.set_cons_zero, List.set_cons_succ]
  refine wpAnyH_take (i := 12) (v := undef) rfl (by kernel_rfl) (by kernel_rfl) (by kernel_rfl) (fun _ _ _ h => h) (Or.inr ⟨by rfl, rfl⟩) hHeld ?_
  simp only [Act.put, List.getElem_toArray, List.getElem_cons_zero, List.getElem_cons_succ, List.setIfInBounds_toArray, List.set_cons_zero, List.set_cons_succ]
  refine wpAnyH_take (i := 13) (v := undef) rfl (by kernel_rfl) (by kernel_rfl) (by kernel_rfl) (fun _ _ _ h => h) (Or.inr ⟨by rfl, rfl⟩) hHeld ?_
  simp only [Act.put, List.getElem_toArray, List.getElem_cons_zero, List.getElem_cons_succ, List.setIfInBounds_toArray, List.set_cons_zero, List.set_cons_succ]
  refine wpAnyH_take (i := 14) (v := undef) rfl (by kernel_rfl) (by kernel_rfl) (by kernel_rfl) (fun _ _ _ h => h) (Or.inr ⟨by rfl, rfl⟩) hHeld ?_
  simp only [Act.put, List.getElem_toArray, List.getElem_cons_zero, List.getElem_cons_succ, List.setIfInBounds_toArray, List.set_cons_zero, List.set_cons_succ]
  refine wpAnyH_take (i := 15) (v := undef) rfl (by kernel_rfl) (by kernel_rfl) (by kernel_rfl) (fun _ _ _ h => h) (Or.inr ⟨by rfl, rfl⟩) hHeld ?_
  simp only [Act.put, List.getElem_toArray, List.getElem_cons_zero, List.getElem_cons_succ, List.setIfInBounds_toArray, List.set_cons_zero, List.set_cons_succ]
  refine wpAnyH_take (i := 16) (v := ?_) rfl (by kernel_rfl) (by kernel_rfl) (by kernel_rfl) (fun _ _ _ h => h) (Or.inl ⟨by rfl, ?_⟩) hHeld ?_
  rotate_left
  · intro W9 hSw; (try dsimp only at hSw); go_simp; (try with_reducible rfl)
  simp only [Act.put, List.getElem_toArray, List.getElem_cons_zero, List.getElem_cons_succ, List.setIfInBounds_toArray, List.set_cons_zero, List.set_cons_succ]
  refine wpAnyH_take (i := 17) (v := ?_) rfl (by kernel_rfl) (by kernel_rfl) (by kernel_rfl) (fun _ _ _ h => h) (Or.inl ⟨by rfl, ?_⟩) hHeld ?_
  rotate_left
  · intro W9 hSw; (try dsimp only at hSw); go_simp; (try with_reducible rfl)
  simp only [Act.put, List.getElem_toArray, List.getElem_cons_zero, List.getElem_cons_succ, List.setIfInBounds_toArray, List.set_cons_zero, List.set_cons_succ]
  refine wpAnyH_take (i := 18) (v := undef) rfl (by kernel_rfl) (by kernel_rfl) (by kernel_rfl) (fun _ _ _ h => h) (Or.inr ⟨by rfl, rfl⟩) hHeld ?_
  simp only [Act.put, List.getElem_toArray, List.getElem_cons_zero, List.getElem_cons_succ, List.setIfInBounds_toArray, List.set_cons_zero, List.set_cons_succ]
  refine wpAnyH_take (i := 19) (v := undef) rfl (by kernel_rfl) (by kernel_rfl) (by kernel_rfl) (fun _ _ _ h => h) (Or.inr ⟨by rfl, rfl⟩) hHeld ?_
  simp only [Act.put, List.getElem_toArray, List.getElem_cons_zero, List.getElem_cons_succ, List.setIfInBounds_toArray, List.set_cons_zero, List.set_cons_succ]
  refine wpAnyH_take (i := 20) (v := undef) rfl (by kernel_rfl) (by kernel_rfl) (by kernel_rfl) (fun _ _ _ h => h) (Or.inr ⟨by rfl, rfl⟩) hHeld ?_
  simp only [Act.put, List.getElem_toArray, List.getElem_cons_zero, List.getElem_cons_succ, List.setIfInBounds_toArray, List.set_cons_zero, List.set_cons_succ]
  refine wpAnyH_take (i := 21) (v := undef) rfl (by kernel_rfl) (by kernel_rfl) (by kernel_rfl) (fun _ _ _ h => h) (Or.inr ⟨by rfl, rfl⟩) hHeld ?_
  simp only [Act.put, List.getElem_toArray, List.getElem_cons_zero, List.getElem_cons_succ, List.setIfInBounds_toArray, List.set_cons_zero, List.set_cons_succ]
  refine wpAnyH_take (i := 22) (v := undef) rfl (by kernel_rfl) (by kernel_rfl) (by kernel_rfl) (fun _ _ _ h => h) (Or.inr ⟨by rfl, rfl⟩) hHeld ?_
  simp only [Act.put, List.getElem_toArray, List.getElem_cons_zero, List.getElem_cons_succ, List.setIfInBounds_toArray, List.set_cons_zero, List.set_cons_succ]
  refine wpAnyH_take (i := 23) (v := undef) rfl (by kernel_rfl) (by kernel_rfl) (by kernel_rfl) (fun _ _ _ h => h) (Or.inr ⟨by rfl, rfl⟩) hHeld ?_
  simp only [Act.put, List.getElem_toArray, List.getElem_cons_zero, List.getElem_cons_succ, List.setIfInBounds_toArray, List.set_cons_zero, List.set_cons_succ]
  refine wpAnyH_take (i := 24) (v := undef) rfl (by kernel_rfl) (by kernel_rfl) (by kernel_rfl) (fun _ _ _ h => h) (Or.inr ⟨by rfl, rfl⟩) hHeld ?_
  simp only [Act.put, List.getElem_toArray, List.getElem_cons_zero, List.getElem_cons_succ, List.setIfInBounds_toArray, List.set_cons_zero, List.set_cons_succ]
  refine wpAnyH_take (i := 25) (v := undef) rfl (by kernel_rfl) (by kernel_rfl) (by kernel_rfl) (fun _ _ _ h => h) (Or.inr ⟨by rfl, rfl⟩) hHeld ?_
  simp only [Act.put, List.getElem_toArray, List.getElem_cons_zero, List.getElem_cons_succ, List.setIfInBounds_toArray, List.set_cons_zero, List.set_cons_succ]
  refine wpAnyH_take (i := 26) (v := undef) rfl (by kernel_rfl) (by kernel_rfl) (by kernel_rfl) (fun _ _ _ h => h) (Or.inr ⟨by rfl, rfl⟩) hHeld ?_
  simp only [Act.put, List.getElem_toArray, List.getElem_cons_zero, List.getElem_cons_succ, List.setIfInBounds_toArray, List.set_cons_zero, List.set_cons_succ]
  refine wpAnyH_take (i := 27) (v := undef) rfl (by kernel_rfl) (by kernel_rfl) (by kernel_rfl) (fun _ _ _ h => h) (Or.inr ⟨by rfl, rfl⟩) hHeld ?_
  simp only [Act.put, List.getElem_toArray, List.getElem_cons_zero, List.getElem_cons_succ, List.setIfInBounds_toArray, List.set_cons_zero, List.set_cons_succ]
  refine wpAnyH_take (i := 28) (v := ?_) rfl (by kernel_rfl) (by kernel_rfl) (by kernel_rfl) (fun _ _ _ h => h) (Or.inl ⟨by rfl, ?_⟩) hHeld ?_
  rotate_left
  · intro W9 hSw; (try dsimp only at hSw); go_simp; (try with_reducible rfl)
  simp only [Act.put, List.getElem_toArray, List.getElem_cons_zero, List.getElem_cons_succ, List.setIfInBounds_toArray, List.set_cons_zero, List.set_cons_succ]
  refine wpAnyH_done (by kernel_rfl) ?_ _
  clear hHeld
  go_wp2_with fail
  go_ret
  exact ⟨PC.ri hE.out.symm, hb.out.trans (hb3.out.mono hb.out.size)⟩
set_option maxRecDepth 100000 in
set_option maxHeartbeats 8000000 in
theorem ck_len (A O V C : Option Addr) (l : List Ent) (o : List Int) (v : List Bool) (cc : List Int) (c co cv cq : Nat) (w : World) (hF : FH w A l c) (hM : RM w O V o v) (hC : RecAt iEnc 1 w w.heap.size C cc) (hol : o.length ≤ 100000) (hvl : v.length ≤ 100000) (hcl : cc.length ≤ 100000) (hv : okF l) (h7 : l.length ≤ 7) (hT : TabOK w) (hval : valR l o v ≠ -1) (hlen : cc.length ≠ 2 ^ szE l) : Calls Tryd.prog 26 #[.slice A l.length c, .agg #[.slice O o.length co, .slice V v.length cv], .slice C cc.length cq] w fun e w' => e = .returned (.int .i64 (chkE l o v cc)) ∧ Below w.heap.size w w' := by
  have hX := Lib.hid (RB.new w (.slice O o.length co) (.slice V v.length cv))
  have hb : Hid (Below w.heap.size w (w.alloc (.cells #[.slice O o.length co, .slice V v.length cv] 30))) := (Below.refl _ _).alloc (Nat.le_refl _) _
  have hVd : Hid (∀ W, Below w.heap.size w W → Calls Tryd.prog 10 #[.slice A l.length c] W fun e w' => e = .returned (.bool true) ∧ Below W.heap.size W w') := fun W h => fB_true hv ▸ (hF.next h).pvalid
  have hps : Hid (∀ W, Calls Tryd.prog 34 #[.slice A l.length c] W fun e w' => e = .returned (.int .i64 (szE l : Int)) ∧ W = w') := fun W => psize A l c W hF.len
  obtain ⟨n, hn⟩ : ∃ n, szE l = n := ⟨_, rfl⟩
  have hn8 : n ≤ 8 := by have := (szE_le h7).1; omega
  have hn2 : 2 ≤ n := by have h := hv.1; have h2 : szE l = l.length + l.length % 2 := rfl; omega
  rw [hn] at hps
  obtain ⟨N, hN⟩ : ∃ N, 2 ^ n = N := ⟨_, rfl⟩
  have hN256 : N ≤ 256 := by rw [← hN]; exact full_lt hn8
  have hN4 : 4 ≤ N := by
    have h1 : 2 ^ 2 ≤ 2 ^ n := Nat.pow_le_pow_right (show 2 > 0 by decide) hn2
    omega
  have gN : IntKind.i64.wrap (2 ^ n) = (N : Int) := by
    have e : ((2 : Int) ^ n) = (N : Int) := by rw [← hN, Int.natCast_pow]; rfl
    rw [e]; exact i64_nat (by omega)
  have n0 : (0 : Int) ≤ (n : Int) := Int.natCast_nonneg _
  have n64 : (n : Int) ≤ 64 := by omega
  have hNs : 2 ^ szE l = N := by rw [hn]; exact hN
  obtain ⟨K, hK⟩ : ∃ K, valR l o v = K := ⟨_, rfl⟩
  have hCv : Hid (∀ W, Below w.heap.size w W → Calls Tryd.prog 40 #[.slice A l.length c, .agg #[.slice O o.length co, .slice V v.length cv]] W fun e w' => e = .returned (.int .i64 K) ∧ Below W.heap.size W w') := fun W h => hK ▸ pvalue A O V l o v c co cv W (hF.next h) hv (hM.next h) hol hvl
  have hE : Hid (chkE l o v cc = 10) := chkE_no fun h => hlen h.2.1.1
  have q1 : (K == -1) = false := by rw [beq_eq_false_iff_ne, ← hK]; exact hval
  have q2 : ((cc.length : Int) != (N : Int)) = true := by rw [bne_iff_ne]; omega
  clear hF hM hC hv hT hK hN hn hNs hval hlen
  go_enter Tryd.func26, Tryd.ntmps26
  go_upto_region 1 with fail
  generalize w.heap.size = B0 at hX ⊢
  generalize w.alloc (.cells #[.slice O o.length co, .slice V v.length cv] 30) = u at *
  go_wp2_with fail
  go_at_call 10
  refine (hVd.out _ hb.out).mono ?_
  rintro e u ⟨rfl, hbn⟩
  replace hX := Lib.hid (hX.out.next hbn)
  replace hb := Lib.hid (hb.out.trans (hbn.mono hb.out.size))
  clear hbn hVd
  go_wp2_with fail
  go_at_call 34
  refine (hps.out _).mono ?_
  rintro e u9 ⟨rfl, rfl⟩
  clear hps
  go_upto_region 4 with fail
  have hS : Hid (∀ W, Below u.heap.size u W → W.cell? ⟨B0, 0, none⟩ = some (.slice O o.length co) ∧ W.cell? ⟨B0, 1, none⟩ = some (.slice V v.length cv)) := fun W h => ⟨(hX.out.next h).c0, (hX.out.next h).c1⟩
  refine wp_region_held_drew (S := fun W => W.cell? ⟨B0, 0, none⟩ = some (.slice O o.length co) ∧ W.cell? ⟨B0, 1, none⟩ = some (.slice V v.length cv)) (by kernel_rfl) (hS.out _ ((Below.refl _ _).drew)) (fun hHeld => ?_)
  refine wpAnyH_take (i := 0) (v := ?_) rfl (by kernel_rfl) (by kernel_rfl) (by kernel_rfl) (fun _ _ _ h => h) (Or.inl ⟨by rfl, ?_⟩) hHeld ?_
  rotate_left
  · intro W9 hSw; (try dsimp only at hSw); go_simp; (try with_reducible rfl)
  simp only [Act.put, List.getElem_toArray, List.getElem_cons_zero, List.getElem_cons_succ, List.setIfInBounds_toArray, List.set_cons_zero, List.set_cons_succ]
  refine wpAnyH_take (i := 1) (v := ?_) rfl (by kernel_rfl) (by kernel_rfl) (by kernel_rfl) (fun _ _ _ h => h) (Or.inl ⟨by rfl, ?_⟩) hHeld ?_
  rotate_left
  · intro W9 hSw; (try dsimp only at hSw); go_simp; (try with_reducible rfl)
  simp only [Act.put, List.getElem_toArray, List.getElem_cons_zero, List.getElem_cons_succ, List.setIfInBounds_toArray, List.set_cons_zero, List.set_cons_succ]
  refine wpAnyH_ready (rs := [2]) (by kernel_rfl) (by simp) ?_
  refine AllReadyH.cons rfl (fun K hK => ?_) AllReadyH.nil
  go_simp
  go_at_call 40
  refine (hCv.out _ (hb.out.trans ((Below.refl _ _).drew.mono hb.out.size))).mono ?_
  rintro e w3 ⟨rfl, hb3⟩
  replace hb3 := Lib.hid (undrew hb3)
  refine hK.out _ _ (hS.out _ hb3.out) (fun hHeld2 => ?_)
  clear hK K hHeld
  have hHeld := hHeld2
  clear hHeld2
  refine wpAnyH_take (i := 3) (v := ?_) rfl (by kernel_rfl) (by kernel_rfl) (by kernel_rfl) (fun _ _ _ h => h) (Or.inl ⟨by rfl, ?_⟩) hHeld ?_
  rotate_left
  · intro W9 hSw; (try dsimp only at hSw); go_simp; (try with_reducible rfl)
  simp only [Act.put, List.getElem_toArray, List.getElem_cons_zero, List.getElem_cons_succ, List.setIfInBounds_toArray, List.set_cons_zero, List.set_cons_succ]
  refine wpAnyH_take (i := 4) (v := ?_) rfl (by kernel_rfl) (by kernel_rfl) (by kernel_rfl) (fun _ _ _ h => h) (Or.inl ⟨by rfl, ?_⟩) hHeld ?_
  rotate_left
  · intro W9 hSw; (try dsimp only at hSw); go_simp; (try with_reducible rfl)
  simp only [Act.put, List.getElem_toArray, List.getElem_cons_zero, List.getElem_cons_succ, List.setIfInBounds_toArray, List.set_cons_zero, List.set_cons_succ]
  refine wpAnyH_take (i := 5) (v := ?_) rfl (by kernel_rfl) (by kernel_rfl) (by kernel_rfl) (fun _ _ _ h => h) (Or.inl ⟨by rfl, ?_⟩) hHeld ?_
  rotate_left
  · intro W9 hSw; (try dsimp only at hSw); go_simp; (try with_reducible rfl)
  simp only [Act.put, List.getElem_toArray, List.getElem_cons_zero, List.getElem_cons_succ, List.setIfInBounds_toArray, List.set_cons_zero, List.set_cons_succ]
  refine wpAnyH_take (i := 6) (v := ?_) rfl (by kernel_rfl) (by kernel_rfl) (by kernel_rfl) (fun _ _ _ h => h) (Or.inl ⟨by rfl, ?_⟩) hHeld ?_
  rotate_left
  · intro W9 hSw; (try dsimp only at hSw); go_simp; (try with_reducible rfl)
  simp only [Act.put, List.getElem_toArray, List.getElem_cons_zero, List.getElem_cons_succ, List.setIfInBounds_toArray, List.set_cons_zero, List.set_cons_succ]
  refine wpAnyH_take (i := 7) (v := ?_) rfl (by kernel_rfl) (by kernel_rfl) (by kernel_rfl) (fun _ _ _ h => h) (Or.inl ⟨by rfl, ?_⟩) hHeld ?_
  rotate_left
  · intro W9 hSw; (try dsimp only at hSw); go_simp; (try with_reducible rfl)
  simp only [Act.put, List.getElem_toArray, List.getElem_cons_zero, List.getElem_cons_succ, List.setIfInBounds_toArray, List.set_cons_zero, List.set_cons_succ]
  refine wpAnyH_take (i := 8) (v := ?_) rfl (by kernel_rfl) (by kernel_rfl) (by kernel_rfl) (fun _ _ _ h => h) (Or.inl ⟨by rfl, ?_⟩) hHeld ?_
  rotate_left
  · intro W9 hSw; (try dsimp only at hSw); go_simp; (try with_reducible rfl)
  simp only [Act.put, List.getElem_toArray, List.getElem_cons_zero, List.getElem_cons_succ, List.setIfInBounds_toArray, List.set_cons_zero, List.set_cons_succ]
  refine wpAnyH_take (i := 9) (v := ?_) rfl (by kernel_rfl) (by kernel_rfl) (by kernel_rfl) (fun _ _ _ h => h) (Or.inl ⟨by rfl, ?_⟩) hHeld ?_
  rotate_left
  · intro W9 hSw; (try dsimp only at hSw); go_simp; (try with_reducible rfl)
  simp only [Act.put, List.getElem_toArray, List.getElem_cons_zero, List.getElem_cons_succ, List.setIfInBounds_toArray, List.set_cons_zero, List.set_cons_succ]
  refine wpAnyH_take (i := 10) (v := ?_) rfl (by kernel_rfl) (by kernel_rfl) (by kernel_rfl) (fun _ _ _ h => h) (Or.inl ⟨by rfl, ?_⟩) hHeld ?_
  rotate_left
  · intro W9 hSw; (try dsimp only at hSw); go_simp; (try with_reducible rfl)
  simp only [Act.put, List.getElem_toArray, List.getElem_cons_zero, List.getElem_cons_succ, List.setIfInBounds_toArray, List.set_cons_zero, List.set_cons_succ]
  refine wpAnyH_take (i := 11) (v := ?_) rfl (by kernel_rfl) (by kernel_rfl) (by kernel_rfl) (fun _ _ _ h => h) (Or.inl ⟨by rfl, ?_⟩) hHeld ?_
  rotate_left
  · intro W9 hSw; (try dsimp only at hSw); go_simp; (try with_reducible rfl)
  simp only [Act.put, List.getElem_toArray, List.getElem_cons_zero, List.getElem_cons_succ, List.setIfInBounds_toArray, List.set_cons_zero, List.set_cons_succ]
  refine wpAnyH_take (i := 12) (v := undef) rfl (by kernel_rfl) (by kernel_rfl) (by kernel_rfl) (fun _ _ _ h => h) (Or.inr ⟨by rfl, rfl⟩) hHeld ?_
  simp only [Act.put, List.getElem_toArray, List.getElem_cons_zero, List.getElem_cons_succ, List.setIfInBounds_toArray, List.set_cons_zero, List.set_cons_succ]
  refine wpAnyH_take (i := 13) (v := undef) rfl (by kernel_rfl) (by kernel_rfl) (by kernel_rfl) (fun _ _ _ h => h) (Or.inr ⟨by rfl, rfl⟩) hHeld ?_
  simp only [Act.put, List.getElem_toArray, List.getElem_cons_zero, List.getElem_cons_succ, List.setIfInBounds_toArray, List.set_cons_zero, List.set_cons_succ]
  refine wpAnyH_take (i := 14) (v := undef) rfl (by kernel_rfl) (by kernel_rfl) (by kernel_rfl) (fun _ _ _ h => h) (Or.inr ⟨by rfl, rfl⟩) hHeld ?_
  simp only [Act.put, List.getElem_toArray, List.getElem_cons_zero, List.getElem_cons_succ, List.setIfInBounds_toArray, List.set_cons_zero, List.set_cons_succ]
  refine wpAnyH_take (i := 15) (v := undef) rfl (by kernel_rfl) (by kernel_rfl) (by kernel_rfl) (fun _ _ _ h => h) (Or.inr ⟨by rfl, rfl⟩) hHeld ?_
  simp only [Act.put, List.getElem_toArray, List.getElem_cons_zero, List.getElem_cons_succ, List.setIfInBounds_toArray, List.set_cons_zero, List.set_cons_succ]
  refine wpAnyH_take (i := 16) (v := ?_) rfl (by kernel_rfl) (by kernel_rfl) (by kernel_rfl) (fun _ _ _ h => h) (Or.inl ⟨by rfl, ?_⟩) hHeld ?_
  rotate_left
  · intro W9 hSw; (try dsimp only at hSw); go_simp; (try with_reducible rfl)
  simp only [Act.put, List.getElem_toArray, List.getElem_cons_zero, List.getElem_cons_succ, List.setIfInBounds_toArray, List.set_cons_zero, List.set_cons_succ]
  refine wpAnyH_take (i := 17) (v := ?_) rfl (by kernel_rfl) (by kernel_rfl) (by kernel_rfl) (fun _ _ _ h => h) (Or.inl ⟨by rfl, ?_⟩) hHeld ?_
  rotate_left
  · intro W9 hSw; (try dsimp only at hSw); go_simp; (try with_reducible rfl)
  simp only [Act.put, List.getElem_toArray, List.getElem_cons_zero, List.getElem_cons_succ, List.setIfInBounds_toArray, List.set_cons_zero, List.set_cons_succ]
  refine wpAnyH_take (i := 18) (v := undef) rfl (by kernel_rfl) (by kernel_rfl) (by kernel_rfl) (fun _ _ _ h => h) (Or.inr ⟨by rfl, rfl⟩) hHeld ?_
  simp only [Act.put, List.getElem_toArray, List.getElem_cons_zero, List.getElem_cons_succ, List.setIfInBounds_toArray, List.set_cons_zero, List.set_cons_succ]
  refine wpAnyH_take (i := 19) (v := undef) rfl (by kernel_rfl) (by kernel_rfl) (by kernel_rfl) (fun _ _ _ h => h) (Or.inr ⟨by rfl, rfl⟩) hHeld ?_
  simp only [Act.put, List.getElem_toArray, List.getElem_cons_zero, List.getElem_cons_succ, List.setIfInBounds_toArray, List.set_cons_zero, List.set_cons_succ]
  refine wpAnyH_take (i := 20) (v := undef) rfl (by kernel_rfl) (by kernel_rfl) (by kernel_rfl) (fun _ _ _ h => h) (Or.inr ⟨by rfl, rfl⟩) hHeld ?_
  simp only [Act.put, List.getElem_toArray, List.getElem_cons_zero, List.getElem_cons_succ, List.setIfInBounds_toArray, List.set_cons_zero, List.set_cons_succ]
  refine wpAnyH_take (i := 21) (v := undef) rfl (by kernel_rfl) (by kernel_rfl) (by kernel_rfl) (fun _ _ _ h => h) (Or.inr ⟨by rfl, rfl⟩) hHeld ?_
  simp only [Act.put, List.getElem_toArray, List.getElem_cons_zero, List.getElem_cons_succ, List.setIfInBounds_toArray, List.set_cons_zero, List.set_cons_succ]
  refine wpAnyH_take (i := 22) (v := undef) rfl (by kernel_rfl) (by kernel_rfl) (by kernel_rfl) (fun _ _ _ h => h) (Or.inr ⟨by rfl, rfl⟩) hHeld ?_
  simp only [Act.put, List.getElem_toArray, List.getElem_cons_zero, List.getElem_cons_succ, List.setIfInBounds_toArray, List.set_cons_zero, List.set_cons_succ]
  refine wpAnyH_take (i := 23) (v := undef) rfl (by kernel_rfl) (by kernel_rfl) (by kernel_rfl) (fun _ _ _ h => h) (Or.inr ⟨by rfl, rfl⟩) hHeld ?_
  simp only [Act.put, List.getElem_toArray, List.getElem_cons_zero, List.getElem_cons_succ, List.setIfInBounds_toArray, List.set_cons_zero, List.set_cons_succ]
  refine wpAnyH_take (i := 24) (v := undef) rfl (by kernel_rfl) (by kernel_rfl) (by kernel_rfl) (fun _ _ _ h => h) (Or.inr ⟨by rfl, rfl⟩) hHeld ?_
  simp only [Act.put, List.getElem_toArray, List.getElem_cons_zero, List.getElem_cons_succ, List.setIfInBounds_toArray, List.set_cons_zero, List.set_cons_succ]
  refine wpAnyH_take (i := 25) (v := undef) rfl (by kernel_rfl) (by kernel_rfl) (by kernel_rfl) (fun _ _ _ h => h) (Or.inr ⟨by rfl, rfl⟩) hHeld ?_
  simp only [Act.put, List.getElem_toArray, List.getElem_cons_zero, List.getElem_cons_succ, List.setIfInBounds_toArray, List.set_cons_zero, List.set_cons_succ]
  refine wpAnyH_take (i := 26) (v := undef) rfl (by kernel_rfl) (by kernel_rfl) (by kernel_rfl) (fun _ _ _ h => h) (Or.inr ⟨by rfl, rfl⟩) hHeld ?_
  simp only [Act.put, List.getElem_toArray, List.getElem_cons_zero, List.getElem_cons_succ, List.setIfInBounds_toArray, List.set_cons_zero, List.set_cons_succ]
  refine wpAnyH_take (i := 27) (v := undef) rfl (by kernel_rfl) (by kernel_rfl) (by kernel_rfl) (fun _ _ _ h => h) (Or.inr ⟨by rfl, rfl⟩) hHeld ?_
  simp only [Act.put, List.getElem_toArray, List.getElem_cons_zero, List.getElem_cons_succ, List.setIfInBounds_toArray, List.set_cons_zero, List.set_cons_succ]
  refine wpAnyH_take (i := 28) (v := ?_) rfl (by kernel_rfl) (by kernel_rfl) (by kernel_rfl) (fun _ _ _ h => h) (Or.inl ⟨by rfl, ?_⟩) hHeld ?_
  rotate_left
  · intro W9 hSw; (try dsimp only at hSw); go_simp; (try with_reducible rfl)
  simp only [Act.put, List.getElem_toArray, List.getElem_cons_zero, List.getElem_cons_succ, List.setIfInBounds_toArray, List.set_cons_zero, List.set_cons_succ]
  refine wpAnyH_done (by kernel_rfl) ?_ _
  clear hHeld
  go_wp2_with fail
  go_ret
  exact ⟨PC.ri hE.out.symm, hb.out.trans (hb3.out.mono hb.out.size)⟩
set_option maxRecDepth 100000 in
set_option maxHeartbeats 8000000 in
theorem ck_zero (A O V C : Option Addr) (l : List Ent) (o : List Int) (v : List Bool) (cc : List Int) (c co cv cq : Nat) (w : World) (hF : FH w A l c) (hM : RM w O V o v) (hC : RecAt iEnc 1 w w.heap.size C cc) (hol : o.length ≤ 100000) (hvl : v.length ≤ 100000) (hcl : cc.length ≤ 100000) (hv : okF l) (h7 : l.length ≤ 7) (hT : TabOK w) (hval : valR l o v ≠ -1) (hlen : cc.length = 2 ^ szE l) (hz : oE cc 0 ≠ 0) : Calls Tryd.prog 26 #[.slice A l.length c, .agg #[.slice O o.length co, .slice V v.length cv], .slice C cc.length cq] w fun e w' => e = .returned (.int .i64 (chkE l o v cc)) ∧ Below w.heap.size w w' := by
  have hX := Lib.hid (RB.new w (.slice O o.length co) (.slice V v.length cv))
  have hb : Hid (Below w.heap.size w (w.alloc (.cells #[.slice O o.length co, .slice V v.length cv] 30))) := (Below.refl _ _).alloc (Nat.le_refl _) _
  have hVd : Hid (∀ W, Below w.heap.size w W → Calls Tryd.prog 10 #[.slice A l.length c] W fun e w' => e = .returned (.bool true) ∧ Below W.heap.size W w') := fun W h => fB_true hv ▸ (hF.next h).pvalid
  have hps : Hid (∀ W, Calls Tryd.prog 34 #[.slice A l.length c] W fun e w' => e = .returned (.int .i64 (szE l : Int)) ∧ W = w') := fun W => psize A l c W hF.len
  obtain ⟨n, hn⟩ : ∃ n, szE l = n := ⟨_, rfl⟩
  have hn8 : n ≤ 8 := by have := (szE_le h7).1; omega
  have hn2 : 2 ≤ n := by have h := hv.1; have h2 : szE l = l.length + l.length % 2 := rfl; omega
  rw [hn] at hps
  obtain ⟨N, hN⟩ : ∃ N, 2 ^ n = N := ⟨_, rfl⟩
  have hN256 : N ≤ 256 := by rw [← hN]; exact full_lt hn8
  have hN4 : 4 ≤ N := by
    have h1 : 2 ^ 2 ≤ 2 ^ n := Nat.pow_le_pow_right (show 2 > 0 by decide) hn2
    omega
  have gN : IntKind.i64.wrap (2 ^ n) = (N : Int) := by
    have e : ((2 : Int) ^ n) = (N : Int) := by rw [← hN, Int.natCast_pow]; rfl
    rw [e]; exact i64_nat (by omega)
  have n0 : (0 : Int) ≤ (n : Int) := Int.natCast_nonneg _
  have n64 : (n : Int) ≤ 64 := by omega
  have hNs : 2 ^ szE l = N := by rw [hn]; exact hN
  obtain ⟨K, hK⟩ : ∃ K, valR l o v = K := ⟨_, rfl⟩
  have hCv : Hid (∀ W, Below w.heap.size w W → Calls Tryd.prog 40 #[.slice A l.length c, .agg #[.slice O o.length co, .slice V v.length cv]] W fun e w' => e = .returned (.int .i64 K) ∧ Below W.heap.size W w') := fun W h => hK ▸ pvalue A O V l o v c co cv W (hF.next h) hv (hM.next h) hol hvl
  have hE : Hid (chkE l o v cc = 10) := chkE_no fun h => hz h.2.1.2.1
  rw [hNs] at hlen
  obtain ⟨bc, oc, rfl, hbcl, hcc⟩ := hC (by omega)
  have hcH : Hid (∀ (k : Nat) (x : Int), cc[k]? = some x → w.cell? ⟨bc, oc + k, none⟩ = some (.int .i64 x)) := fun k x hx => by have := hcc k x hx 0 _ rfl; rwa [Nat.mul_one] at this
  have hbc : Hid (bc < w.heap.size) := hbcl
  have q1 : (K == -1) = false := by rw [beq_eq_false_iff_ne, ← hK]; exact hval
  have q2 : ((N : Int) != (N : Int)) = false := bne_self_eq_false _
  obtain ⟨y0, hy0⟩ : ∃ y, cc[0]? = some y := ⟨_, List.getElem?_eq_getElem (by omega)⟩
  have z0 : Hid (w.cell? ⟨bc, oc, none⟩ = some (.int .i64 y0)) := hcH.out 0 y0 hy0
  have hN0 : (0 : Int) < (N : Int) := by omega
  have hN0n : 0 < N := by omega
  have hN0t : (0 < N) = True := eq_true hN0n
  rw [hlen]
  have q3 : (y0 != 0) = true := by rw [bne_iff_ne]; rw [oE_eq hy0] at hz; exact hz
  clear hF hM hC hv hT hK hN hn hNs hval hlen hy0 hcc hbcl hz
  go_enter Tryd.func26, Tryd.ntmps26
  go_upto_region 1 with fail
  generalize w.heap.size = B0 at hX ⊢
  generalize w.alloc (.cells #[.slice O o.length co, .slice V v.length cv] 30) = u at *
  go_wp2_with fail
  go_at_call 10
  refine (hVd.out _ hb.out).mono ?_
  rintro e u ⟨rfl, hbn⟩
  replace hX := Lib.hid (hX.out.next hbn)
  replace hb := Lib.hid (hb.out.trans (hbn.mono hb.out.size))
  clear hbn hVd
  go_wp2_with fail
  go_at_call 34
  refine (hps.out _).mono ?_
  rintro e u9 ⟨rfl, rfl⟩
  clear hps
  go_upto_region 4 with fail
  have hS : Hid (∀ W, Below u.heap.size u W → W.cell? ⟨B0, 0, none⟩ = some (.slice O o.length co) ∧ W.cell? ⟨B0, 1, none⟩ = some (.slice V v.length cv) ∧ W.cell? ⟨bc, oc, none⟩ = some (.int .i64 y0)) := fun W h => ⟨(hX.out.next h).c0, (hX.out.next h).c1, ((hb.out.trans (h.mono hb.out.size)).cell (p := ⟨bc, oc, none⟩) hbc.out).trans z0.out⟩
  refine wp_region_held_drew (S := fun W => W.cell? ⟨B0, 0, none⟩ = some (.slice O o.length co) ∧ W.cell? ⟨B0, 1, none⟩ = some (.slice V v.length cv) ∧ W.cell? ⟨bc, oc, none⟩ = some (.int .i64 y0)) (by kernel_rfl) (hS.out _ ((Below.refl _ _).drew)) (fun hHeld => ?_)
  refine wpAnyH_take (i := 0) (v := ?_) rfl (by kernel_rfl) (by kernel_rfl) (by kernel_rfl) (fun _ _ _ h => h) (Or.inl ⟨by rfl, ?_⟩) hHeld ?_
  rotate_left
  · intro W9 hSw; (try dsimp only at hSw); go_simp; (try with_reducible rfl)
  simp only [Act.put, List.getElem_toArray, List.getElem_cons_zero, List.getElem_cons_succ, List.setIfInBounds_toArray, List.set_cons_zero, List.set_cons_succ]
  refine wpAnyH_take (i := 1) (v := ?_) rfl (by kernel_rfl) (by kernel_rfl) (by kernel_rfl) (fun _ _ _ h => h) (Or.inl ⟨by rfl, ?_⟩) hHeld ?_
  rotate_left
  · intro W9 hSw; (try dsimp only at hSw); go_simp; (try with_reducible rfl)
  simp only [Act.put, List.getElem_toArray, List.getElem_cons_zero, List.getElem_cons_succ, List.setIfInBounds_toArray, List.set_cons_zero, List.set_cons_succ]
  refine wpAnyH_ready (rs := [2]) (by kernel_rfl) (by simp) ?_
  refine AllReadyH.cons rfl (fun K hK => ?_) AllReadyH.nil
  go_simp
  go_at_call 40
  refine (hCv.out _ (hb.out.trans ((Below.refl _ _).drew.mono hb.out.size))).mono ?_
  rintro e w3 ⟨rfl, hb3⟩
  replace hb3 := Lib.hid (undrew hb3)
  refine hK.out _ _ (hS.out _ hb3.out) (fun hHeld2 => ?_)
  clear hK K hHeld
  have hHeld := hHeld2
  clear hHeld2
  refine wpAnyH_take (i := 3) (v := ?_) rfl (by kernel_rfl) (by kernel_rfl) (by kernel_rfl) (fun _ _ _ h => h) (Or.inl ⟨by rfl, ?_⟩) hHeld ?_
  rotate_left
  · intro W9 hSw; (try dsimp only at hSw); go_simp; (try with_reducible rfl)
  simp only [Act.put, List.getElem_toArray, List.getElem_cons_zero, List.getElem_cons_succ, List.setIfInBounds_toArray, List.set_cons_zero, List.set_cons_succ]
  refine wpAnyH_take (i := 4) (v := ?_) rfl (by kernel_rfl) (by kernel_rfl) (by kernel_rfl) (fun _ _ _ h => h) (Or.inl ⟨by rfl, ?_⟩) hHeld ?_
  rotate_left
  · intro W9 hSw; (try dsimp only at hSw); go_simp; (try with_reducible rfl)
  simp only [Act.put, List.getElem_toArray, List.getElem_cons_zero, List.getElem_cons_succ, List.setIfInBounds_toArray, List.set_cons_zero, List.set_cons_succ]
  refine wpAnyH_take (i := 5) (v := ?_) rfl (by kernel_rfl) (by kernel_rfl) (by kernel_rfl) (fun _ _ _ h => h) (Or.inl ⟨by rfl, ?_⟩) hHeld ?_
  rotate_left
  · intro W9 hSw; (try dsimp only at hSw); go_simp; (try with_reducible rfl)
  simp only [Act.put, List.getElem_toArray, List.getElem_cons_zero, List.getElem_cons_succ, List.setIfInBounds_toArray, List.set_cons_zero, List.set_cons_succ]
  refine wpAnyH_take (i := 6) (v := ?_) rfl (by kernel_rfl) (by kernel_rfl) (by kernel_rfl) (fun _ _ _ h => h) (Or.inl ⟨by rfl, ?_⟩) hHeld ?_
  rotate_left
  · intro W9 hSw; (try dsimp only at hSw); go_simp; (try with_reducible rfl)
  simp only [Act.put, List.getElem_toArray, List.getElem_cons_zero, List.getElem_cons_succ, List.setIfInBounds_toArray, List.set_cons_zero, List.set_cons_succ]
  refine wpAnyH_take (i := 7) (v := ?_) rfl (by kernel_rfl) (by kernel_rfl) (by kernel_rfl) (fun _ _ _ h => h) (Or.inl ⟨by rfl, ?_⟩) hHeld ?_
  rotate_left
  · intro W9 hSw; (try dsimp only at hSw); go_simp; (try with_reducible rfl)
  simp only [Act.put, List.getElem_toArray, List.getElem_cons_zero, List.getElem_cons_succ, List.setIfInBounds_toArray, List.set_cons_zero, List.set_cons_succ]
  refine wpAnyH_take (i := 8) (v := ?_) rfl (by kernel_rfl) (by kernel_rfl) (by kernel_rfl) (fun _ _ _ h => h) (Or.inl ⟨by rfl, ?_⟩) hHeld ?_
  rotate_left
  · intro W9 hSw; (try dsimp only at hSw); go_simp; (try with_reducible rfl)
  simp only [Act.put, List.getElem_toArray, List.getElem_cons_zero, List.getElem_cons_succ, List.setIfInBounds_toArray, List.set_cons_zero, List.set_cons_succ]
  refine wpAnyH_take (i := 9) (v := ?_) rfl (by kernel_rfl) (by kernel_rfl) (by kernel_rfl) (fun _ _ _ h => h) (Or.inl ⟨by rfl, ?_⟩) hHeld ?_
  rotate_left
  · intro W9 hSw; (try dsimp only at hSw); go_simp; (try with_reducible rfl)
  simp only [Act.put, List.getElem_toArray, List.getElem_cons_zero, List.getElem_cons_succ, List.setIfInBounds_toArray, List.set_cons_zero, List.set_cons_succ]
  refine wpAnyH_take (i := 10) (v := ?_) rfl (by kernel_rfl) (by kernel_rfl) (by kernel_rfl) (fun _ _ _ h => h) (Or.inl ⟨by rfl, ?_⟩) hHeld ?_
  rotate_left
  · intro W9 hSw; (try dsimp only at hSw); go_simp; (try with_reducible rfl)
  simp only [Act.put, List.getElem_toArray, List.getElem_cons_zero, List.getElem_cons_succ, List.setIfInBounds_toArray, List.set_cons_zero, List.set_cons_succ]
  refine wpAnyH_take (i := 11) (v := ?_) rfl (by kernel_rfl) (by kernel_rfl) (by kernel_rfl) (fun _ _ _ h => h) (Or.inl ⟨by rfl, ?_⟩) hHeld ?_
  rotate_left
  · intro W9 hSw; (try dsimp only at hSw); go_simp; (try with_reducible rfl)
  simp only [Act.put, List.getElem_toArray, List.getElem_cons_zero, List.getElem_cons_succ, List.setIfInBounds_toArray, List.set_cons_zero, List.set_cons_succ]
  refine wpAnyH_take (i := 12) (v := ?_) rfl (by kernel_rfl) (by kernel_rfl) (by kernel_rfl) (fun _ _ _ h => h) (Or.inl ⟨by rfl, ?_⟩) hHeld ?_
  rotate_left
  · intro W9 hSw; (try dsimp only at hSw); go_simp; (try with_reducible rfl)
  simp only [Act.put, List.getElem_toArray, List.getElem_cons_zero, List.getElem_cons_succ, List.setIfInBounds_toArray, List.set_cons_zero, List.set_cons_succ]
  refine wpAnyH_take (i := 13) (v := ?_) rfl (by kernel_rfl) (by kernel_rfl) (by kernel_rfl) (fun _ _ _ h => h) (Or.inl ⟨by rfl, ?_⟩) hHeld ?_
  rotate_left
  · intro W9 hSw; (try dsimp only at hSw); go_simp; (try with_reducible rfl)
  simp only [Act.put, List.getElem_toArray, List.getElem_cons_zero, List.getElem_cons_succ, List.setIfInBounds_toArray, List.set_cons_zero, List.set_cons_succ]
  refine wpAnyH_take (i := 14) (v := ?_) rfl (by kernel_rfl) (by kernel_rfl) (by kernel_rfl) (fun _ _ _ h => h) (Or.inl ⟨by rfl, ?_⟩) hHeld ?_
  rotate_left
  · intro W9 hSw; (try dsimp only at hSw); go_simp; (try with_reducible rfl)
  simp only [Act.put, List.getElem_toArray, List.getElem_cons_zero, List.getElem_cons_succ, List.setIfInBounds_toArray, List.set_cons_zero, List.set_cons_succ]
  refine wpAnyH_take (i := 15) (v := ?_) rfl (by kernel_rfl) (by kernel_rfl) (by kernel_rfl) (fun _ _ _ h => h) (Or.inl ⟨by rfl, ?_⟩) hHeld ?_
  rotate_left
  · intro W9 hSw; (try dsimp only at hSw); go_simp; (try with_reducible rfl)
  simp only [Act.put, List.getElem_toArray, List.getElem_cons_zero, List.getElem_cons_succ, List.setIfInBounds_toArray, List.set_cons_zero, List.set_cons_succ]
  refine wpAnyH_take (i := 16) (v := ?_) rfl (by kernel_rfl) (by kernel_rfl) (by kernel_rfl) (fun _ _ _ h => h) (Or.inl ⟨by rfl, ?_⟩) hHeld ?_
  rotate_left
  · intro W9 hSw; (try dsimp only at hSw); go_simp; (try with_reducible rfl)
  simp only [Act.put, List.getElem_toArray, List.getElem_cons_zero, List.getElem_cons_succ, List.setIfInBounds_toArray, List.set_cons_zero, List.set_cons_succ]
  refine wpAnyH_take (i := 17) (v := ?_) rfl (by kernel_rfl) (by kernel_rfl) (by kernel_rfl) (fun _ _ _ h => h) (Or.inl ⟨by rfl, ?_⟩) hHeld ?_
  rotate_left
  · intro W9 hSw; (try dsimp only at hSw); go_simp; (try with_reducible rfl)
  simp only [Act.put, List.getElem_toArray, List.getElem_cons_zero, List.getElem_cons_succ, List.setIfInBounds_toArray, List.set_cons_zero, List.set_cons_succ]
  refine wpAnyH_take (i := 18) (v := undef) rfl (by kernel_rfl) (by kernel_rfl) (by kernel_rfl) (fun _ _ _ h => h) (Or.inr ⟨by rfl, rfl⟩) hHeld ?_
  simp only [Act.put, List.getElem_toArray, List.getElem_cons_zero, List.getElem_cons_succ, List.setIfInBounds_toArray, List.set_cons_zero, List.set_cons_succ]
  refine wpAnyH_take (i := 19) (v := undef) rfl (by kernel_rfl) (by kernel_rfl) (by kernel_rfl) (fun _ _ _ h => h) (Or.inr ⟨by rfl, rfl⟩) hHeld ?_
  simp only [Act.put, List.getElem_toArray, List.getElem_cons_zero, List.getElem_cons_succ, List.setIfInBounds_toArray, List.set_cons_zero, List.set_cons_succ]
  refine wpAnyH_take (i := 20) (v := undef) rfl (by kernel_rfl) (by kernel_rfl) (by kernel_rfl) (fun _ _ _ h => h) (Or.inr ⟨by rfl, rfl⟩) hHeld ?_
  simp only [Act.put, List.getElem_toArray, List.getElem_cons_zero, List.getElem_cons_succ, List.setIfInBounds_toArray, List.set_cons_zero, List.set_cons_succ]
  refine wpAnyH_take (i := 21) (v := undef) rfl (by kernel_rfl) (by kernel_rfl) (by kernel_rfl) (fun _ _ _ h => h) (Or.inr ⟨by rfl, rfl⟩) hHeld ?_
  simp only [Act.put, List.getElem_toArray, List.getElem_cons_zero, List.getElem_cons_succ, List.setIfInBounds_toArray, List.set_cons_zero, List.set_cons_succ]
  refine wpAnyH_take (i := 22) (v := undef) rfl (by kernel_rfl) (by kernel_rfl) (by kernel_rfl) (fun _ _ _ h => h) (Or.inr ⟨by rfl, rfl⟩) hHeld ?_
  simp only [Act.put, List.getElem_toArray, List.getElem_cons_zero, List.getElem_cons_succ, List.setIfInBounds_toArray, List.set_cons_zero, List.set_cons_succ]
  refine wpAnyH_take (i := 23) (v := undef) rfl (by kernel_rfl) (by kernel_rfl) (by kernel_rfl) (fun _ _ _ h => h) (Or.inr ⟨by rfl, rfl⟩) hHeld ?_
  simp only [Act.put, List.getElem_toArray, List.getElem_cons_zero, List.getElem_cons_succ, List.setIfInBounds_toArray, List.set_cons_zero, List.set_cons_succ]
  refine wpAnyH_take (i := 24) (v := undef) rfl (by kernel_rfl) (by kernel_rfl) (by kernel_rfl) (fun _ _ _ h => h) (Or.inr ⟨by rfl, rfl⟩) hHeld ?_
  simp only [Act.put, List.getElem_toArray, List.getElem_cons_zero, List.getElem_cons_succ, List.setIfInBounds_toArray, List.set_cons_zero, List.set_cons_succ]
  refine wpAnyH_take (i := 25) (v := undef) rfl (by kernel_rfl) (by kernel_rfl) (by kernel_rfl) (fun _ _ _ h => h) (Or.inr ⟨by rfl, rfl⟩) hHeld ?_
  simp only [Act.put, List.getElem_toArray, List.getElem_cons_zero, List.getElem_cons_succ, List.setIfInBounds_toArray, List.set_cons_zero, List.set_cons_succ]
  refine wpAnyH_take (i := 26) (v := undef) rfl (by kernel_rfl) (by kernel_rfl) (by kernel_rfl) (fun _ _ _ h => h) (Or.inr ⟨by rfl, rfl⟩) hHeld ?_
  simp only [Act.put, List.getElem_toArray, List.getElem_cons_zero, List.getElem_cons_succ, List.setIfInBounds_toArray, List.set_cons_zero, List.set_cons_succ]
  refine wpAnyH_take (i := 27) (v := undef) rfl (by kernel_rfl) (by kernel_rfl) (by kernel_rfl) (fun _ _ _ h => h) (Or.inr ⟨by rfl, rfl⟩) hHeld ?_
  simp only [Act.put, List.getElem_toArray, List.getElem_cons_zero, List.getElem_cons_succ, List.setIfInBounds_toArray, List.set_cons_zero, List.set_cons_succ]
  refine wpAnyH_take (i := 28) (v := ?_) rfl (by kernel_rfl) (by kernel_rfl) (by kernel_rfl) (fun _ _ _ h => h) (Or.inl ⟨by rfl, ?_⟩) hHeld ?_
  rotate_left
  · intro W9 hSw; (try dsimp only at hSw); go_simp; (try with_reducible rfl)
  simp only [Act.put, List.getElem_toArray, List.getElem_cons_zero, List.getElem_cons_succ, List.setIfInBounds_toArray, List.set_cons_zero, List.set_cons_succ]
  refine wpAnyH_done (by kernel_rfl) ?_ _
  clear hHeld
  go_wp2_with fail
  go_ret
  exact ⟨PC.ri hE.out.symm, hb.out.trans (hb3.out.mono hb.out.size)⟩
set_option maxRecDepth 100000 in
set_option maxHeartbeats 8000000 in
theorem ck_last (A O V C : Option Addr) (l : List Ent) (o : List Int) (v : List Bool) (cc : List Int) (c co cv cq : Nat) (w : World) (hF : FH w A l c) (hM : RM w O V o v) (hC : RecAt iEnc 1 w w.heap.size C cc) (hol : o.length ≤ 100000) (hvl : v.length ≤ 100000) (hcl : cc.length ≤ 100000) (hv : okF l) (h7 : l.length ≤ 7) (hT : TabOK w) (hval : valR l o v ≠ -1) (hlen : cc.length = 2 ^ szE l) (hz : oE cc 0 = 0) (hla : oE cc (2 ^ szE l - 1) ≠ valR l o v) : Calls Tryd.prog 26 #[.slice A l.length c, .agg #[.slice O o.length co, .slice V v.length cv], .slice C cc.length cq] w fun e w' => e = .returned (.int .i64 (chkE l o v cc)) ∧ Below w.heap.size w w' := by
  have hX := Lib.hid (RB.new w (.slice O o.length co) (.slice V v.length cv))
  have hb : Hid (Below w.heap.size w (w.alloc (.cells #[.slice O o.length co, .slice V v.length cv] 30))) := (Below.refl _ _).alloc (Nat.le_refl _) _
  have hVd : Hid (∀ W, Below w.heap.size w W → Calls Tryd.prog 10 #[.slice A l.length c] W fun e w' => e = .returned (.bool true) ∧ Below W.heap.size W w') := fun W h => fB_true hv ▸ (hF.next h).pvalid
  have hps : Hid (∀ W, Calls Tryd.prog 34 #[.slice A l.length c] W fun e w' => e = .returned (.int .i64 (szE l : Int)) ∧ W = w') := fun W => psize A l c W hF.len
  obtain ⟨n, hn⟩ : ∃ n, szE l = n := ⟨_, rfl⟩
  have hn8 : n ≤ 8 := by have := (szE_le h7).1; omega
  have hn2 : 2 ≤ n := by have h := hv.1; have h2 : szE l = l.length + l.length % 2 := rfl; omega
  rw [hn] at hps
  obtain ⟨N, hN⟩ : ∃ N, 2 ^ n = N := ⟨_, rfl⟩
  have hN256 : N ≤ 256 := by rw [← hN]; exact full_lt hn8
  have hN4 : 4 ≤ N := by
    have h1 : 2 ^ 2 ≤ 2 ^ n := Nat.pow_le_pow_right (show 2 > 0 by decide) hn2
    omega
  have gN : IntKind.i64.wrap (2 ^ n) = (N : Int) := by
    have e : ((2 : Int) ^ n) = (N : Int) := by rw [← hN, Int.natCast_pow]; rfl
    rw [e]; exact i64_nat (by omega)
  have n0 : (0 : Int) ≤ (n : Int) := Int.natCast_nonneg _
  have n64 : (n : Int) ≤ 64 := by omega
  have hNs : 2 ^ szE l = N := by rw [hn]; exact hN
  obtain ⟨K, hK⟩ : ∃ K, valR l o v = K := ⟨_, rfl⟩
  have hCv : Hid (∀ W, Below w.heap.size w W → Calls Tryd.prog 40 #[.slice A l.length c, .agg #[.slice O o.length co, .slice V v.length cv]] W fun e w' => e = .returned (.int .i64 K) ∧ Below W.heap.size W w') := fun W h => hK ▸ pvalue A O V l o v c co cv W (hF.next h) hv (hM.next h) hol hvl
  have hE : Hid (chkE l o v cc = 10) := chkE_no fun h => hla h.2.2
  rw [hNs] at hlen
  obtain ⟨bc, oc, rfl, hbcl, hcc⟩ := hC (by omega)
  have hcH : Hid (∀ (k : Nat) (x : Int), cc[k]? = some x → w.cell? ⟨bc, oc + k, none⟩ = some (.int .i64 x)) := fun k x hx => by have := hcc k x hx 0 _ rfl; rwa [Nat.mul_one] at this
  have hbc : Hid (bc < w.heap.size) := hbcl
  have q1 : (K == -1) = false := by rw [beq_eq_false_iff_ne, ← hK]; exact hval
  have q2 : ((N : Int) != (N : Int)) = false := bne_self_eq_false _
  obtain ⟨y0, hy0⟩ : ∃ y, cc[0]? = some y := ⟨_, List.getElem?_eq_getElem (by omega)⟩
  have z0 : Hid (w.cell? ⟨bc, oc, none⟩ = some (.int .i64 y0)) := hcH.out 0 y0 hy0
  have hN0 : (0 : Int) < (N : Int) := by omega
  have hN0n : 0 < N := by omega
  have hN0t : (0 < N) = True := eq_true hN0n
  rw [hlen]
  have q3 : (y0 != 0) = false := by rw [bne_eq_false_iff_eq]; rw [oE_eq hy0] at hz; exact hz
  obtain ⟨R, hR⟩ : ∃ R, N - 1 = R := ⟨_, rfl⟩
  have gR : IntKind.i64.wrap ((N : Int) - 1) = (R : Int) := by rw [show (N : Int) - 1 = (R : Int) by omega]; exact i64_nat (by omega)
  have hRN : (R : Int) < (N : Int) := by omega
  have hR0 : (0 : Int) ≤ (R : Int) := Int.natCast_nonneg _
  obtain ⟨y1, hy1⟩ : ∃ y, cc[R]? = some y := ⟨_, List.getElem?_eq_getElem (by omega)⟩
  have z1 : Hid (w.cell? ⟨bc, oc + R, none⟩ = some (.int .i64 y1)) := hcH.out R y1 hy1
  have q4 : (y1 != K) = true := by
    rw [bne_iff_ne, ← hK]
    rw [hNs, hR, oE_eq hy1] at hla; exact hla
  clear hF hM hC hv hT hK hN hn hNs hval hlen hy0 hy1 hcc hbcl hz hla hR
  go_enter Tryd.func26, Tryd.ntmps26
  go_upto_region 1 with fail
  generalize w.heap.size = B0 at hX ⊢
  generalize w.alloc (.cells #[.slice O o.length co, .slice V v.length cv] 30) = u at *
  go_wp2_with fail
  go_at_call 10
  refine (hVd.out _ hb.out).mono ?_
  rintro e u ⟨rfl, hbn⟩
  replace hX := Lib.hid (hX.out.next hbn)
  replace hb := Lib.hid (hb.out.trans (hbn.mono hb.out.size))
  clear hbn hVd
  go_wp2_with fail
  go_at_call 34
  refine (hps.out _).mono ?_
  rintro e u9 ⟨rfl, rfl⟩
  clear hps
  go_upto_region 4 with fail
  have hS : Hid (∀ W, Below u.heap.size u W → W.cell? ⟨B0, 0, none⟩ = some (.slice O o.length co) ∧ W.cell? ⟨B0, 1, none⟩ = some (.slice V v.length cv) ∧ W.cell? ⟨bc, oc, none⟩ = some (.int .i64 y0) ∧ W.cell? ⟨bc, oc + R, none⟩ = some (.int .i64 y1)) := fun W h => ⟨(hX.out.next h).c0, (hX.out.next h).c1, ((hb.out.trans (h.mono hb.out.size)).cell (p := ⟨bc, oc, none⟩) hbc.out).trans z0.out, ((hb.out.trans (h.mono hb.out.size)).cell (p := ⟨bc, oc + R, none⟩) hbc.out).trans z1.out⟩
  refine wp_region_held_drew (S := fun W => W.cell? ⟨B0, 0, none⟩ = some (.slice O o.length co) ∧ W.cell? ⟨B0, 1, none⟩ = some (.slice V v.length cv) ∧ W.cell? ⟨bc, oc, none⟩ = some (.int .i64 y0) ∧ W.cell? ⟨bc, oc + R, none⟩ = some (.int .i64 y1)) (by kernel_rfl) (hS.out _ ((Below.refl _ _).drew)) (fun hHeld => ?_)
  refine wpAnyH_take (i := 0) (v := ?_) rfl (by kernel_rfl) (by kernel_rfl) (by kernel_rfl) (fun _ _ _ h => h) (Or.inl ⟨by rfl, ?_⟩) hHeld ?_
  rotate_left
  · intro W9 hSw; (try dsimp only at hSw); go_simp; (try with_reducible rfl)
  simp only [Act.put, List.getElem_toArray, List.getElem_cons_zero, List.getElem_cons_succ, List.setIfInBounds_toArray, List.set_cons_zero, List.set_cons_succ]
  refine wpAnyH_take (i := 1) (v := ?_) rfl (by kernel_rfl) (by kernel_rfl) (by kernel_rfl) (fun _ _ _ h => h) (Or.inl ⟨by rfl, ?_⟩) hHeld ?_
  rotate_left
  · intro W9 hSw; (try dsimp only at hSw); go_simp; (try with_reducible rfl)
  simp only [Act.put, List.getElem_toArray, List.getElem_cons_zero, List.getElem_cons_succ, List.setIfInBounds_toArray, List.set_cons_zero, List.set_cons_succ]
  refine wpAnyH_ready (rs := [2]) (by kernel_rfl) (by simp) ?_
  refine AllReadyH.cons rfl (fun K hK => ?_) AllReadyH.nil
  go_simp
  go_at_call 40
  refine (hCv.out _ (hb.out.trans ((Below.refl _ _).drew.mono hb.out.size))).mono ?_
  rintro e w3 ⟨rfl, hb3⟩
  replace hb3 := Lib.hid (undrew hb3)
  refine hK.out _ _ (hS.out _ hb3.out) (fun hHeld2 => ?_)
  clear hK K hHeld
  have hHeld := hHeld2
  clear hHeld2
  refine wpAnyH_take (i := 3) (v := ?_) rfl (by kernel_rfl) (by kernel_rfl) (by kernel_rfl) (fun _ _ _ h => h) (Or.inl ⟨by rfl, ?_⟩) hHeld ?_
  rotate_left
  · intro W9 hSw; (try dsimp only at hSw); go_simp; (try with_reducible rfl)
  simp only [Act.put, List.getElem_toArray, List.getElem_cons_zero, List.getElem_cons_succ, List.setIfInBounds_toArray, List.set_cons_zero, List.set_cons_succ]
  refine wpAnyH_take (i := 4) (v := ?_) rfl (by kernel_rfl) (by kernel_rfl) (by kernel_rfl) (fun _ _ _ h => h) (Or.inl ⟨by rfl, ?_⟩) hHeld ?_
  rotate_left
  · intro W9 hSw; (try dsimp only at hSw); go_simp; (try with_reducible rfl)
  simp only [Act.put, List.getElem_toArray, List.getElem_cons_zero, List.getElem_cons_succ, List.setIfInBounds_toArray, List.set_cons_zero, List.set_cons_succ]
  refine wpAnyH_take (i := 5) (v := ?_) rfl (by kernel_rfl) (by kernel_rfl) (by kernel_rfl) (fun _ _ _ h => h) (Or.inl ⟨by rfl, ?_⟩) hHeld ?_
  rotate_left
  · intro W9 hSw; (try dsimp only at hSw); go_simp; (try with_reducible rfl)
  simp only [Act.put, List.getElem_toArray, List.getElem_cons_zero, List.getElem_cons_succ, List.setIfInBounds_toArray, List.set_cons_zero, List.set_cons_succ]
  refine wpAnyH_take (i := 6) (v := ?_) rfl (by kernel_rfl) (by kernel_rfl) (by kernel_rfl) (fun _ _ _ h => h) (Or.inl ⟨by rfl, ?_⟩) hHeld ?_
  rotate_left
  · intro W9 hSw; (try dsimp only at hSw); go_simp; (try with_reducible rfl)
  simp only [Act.put, List.getElem_toArray, List.getElem_cons_zero, List.getElem_cons_succ, List.setIfInBounds_toArray, List.set_cons_zero, List.set_cons_succ]
  refine wpAnyH_take (i := 7) (v := ?_) rfl (by kernel_rfl) (by kernel_rfl) (by kernel_rfl) (fun _ _ _ h => h) (Or.inl ⟨by rfl, ?_⟩) hHeld ?_
  rotate_left
  · intro W9 hSw; (try dsimp only at hSw); go_simp; (try with_reducible rfl)
  simp only [Act.put, List.getElem_toArray, List.getElem_cons_zero, List.getElem_cons_succ, List.setIfInBounds_toArray, List.set_cons_zero, List.set_cons_succ]
  refine wpAnyH_take (i := 8) (v := ?_) rfl (by kernel_rfl) (by kernel_rfl) (by kernel_rfl) (fun _ _ _ h => h) (Or.inl ⟨by rfl, ?_⟩) hHeld ?_
  rotate_left
  · intro W9 hSw; (try dsimp only at hSw); go_simp; (try with_reducible rfl)
  simp only [Act.put, List.getElem_toArray, List.getElem_cons_zero, List.getElem_cons_succ, List.setIfInBounds_toArray, List.set_cons_zero, List.set_cons_succ]
  refine wpAnyH_take (i := 9) (v := ?_) rfl (by kernel_rfl) (by kernel_rfl) (by kernel_rfl) (fun _ _ _ h => h) (Or.inl ⟨by rfl, ?_⟩) hHeld ?_
  rotate_left
  · intro W9 hSw; (try dsimp only at hSw); go_simp; (try with_reducible rfl)
  simp only [Act.put, List.getElem_toArray, List.getElem_cons_zero, List.getElem_cons_succ, List.setIfInBounds_toArray, List.set_cons_zero, List.set_cons_succ]
  refine wpAnyH_take (i := 10) (v := ?_) rfl (by kernel_rfl) (by kernel_rfl) (by kernel_rfl) (fun _ _ _ h => h) (Or.inl ⟨by rfl, ?_⟩) hHeld ?_
  rotate_left
  · intro W9 hSw; (try dsimp only at hSw); go_simp; (try with_reducible rfl)
  simp only [Act.put, List.getElem_toArray, List.getElem_cons_zero, List.getElem_cons_succ, List.setIfInBounds_toArray, List.set_cons_zero, List.set_cons_succ]
  refine wpAnyH_take (i := 11) (v := ?_) rfl (by kernel_rfl) (by kernel_rfl) (by kernel_rfl) (fun _ _ _ h => h) (Or.inl ⟨by rfl, ?_⟩) hHeld ?_
  rotate_left
  · intro W9 hSw; (try dsimp only at hSw); go_simp; (try with_reducible rfl)
  simp only [Act.put, List.getElem_toArray, List.getElem_cons_zero, List.getElem_cons_succ, List.setIfInBounds_toArray, List.set_cons_zero, List.set_cons_succ]
  refine wpAnyH_take (i := 12) (v := ?_) rfl (by kernel_rfl) (by kernel_rfl) (by kernel_rfl) (fun _ _ _ h => h) (Or.inl ⟨by rfl, ?_⟩) hHeld ?_
  rotate_left
  · intro W9 hSw; (try dsimp only at hSw); go_simp; (try with_reducible rfl)
  simp only [Act.put, List.getElem_toArray, List.getElem_cons_zero, List.getElem_cons_succ, List.setIfInBounds_toArray, List.set_cons_zero, List.set_cons_succ]
  refine wpAnyH_take (i := 13) (v := ?_) rfl (by kernel_rfl) (by kernel_rfl) (by kernel_rfl) (fun _ _ _ h => h) (Or.inl ⟨by rfl, ?_⟩) hHeld ?_
  rotate_left
  · intro W9 hSw; (try dsimp only at hSw); go_simp; (try with_reducible rfl)
  simp only [Act.put, List.getElem_toArray, List.getElem_cons_zero, List.getElem_cons_succ, List.setIfInBounds_toArray, List.set_cons_zero, List.set_cons_succ]
  refine wpAnyH_take (i := 14) (v := ?_) rfl (by kernel_rfl) (by kernel_rfl) (by kernel_rfl) (fun _ _ _ h => h) (Or.inl ⟨by rfl, ?_⟩) hHeld ?_
  rotate_left
  · intro W9 hSw; (try dsimp only at hSw); go_simp; (try with_reducible rfl)
  simp only [Act.put, List.getElem_toArray, List.getElem_cons_zero, List.getElem_cons_succ, List.setIfInBounds_toArray, List.set_cons_zero, List.set_cons_succ]
  refine wpAnyH_take (i := 15) (v := ?_) rfl (by kernel_rfl) (by kernel_rfl) (by kernel_rfl) (fun _ _ _ h => h) (Or.inl ⟨by rfl, ?_⟩) hHeld ?_
  rotate_left
  · intro W9 hSw; (try dsimp only at hSw); go_simp; (try with_reducible rfl)
  simp only [Act.put, List.getElem_toArray, List.getElem_cons_zero, List.getElem_cons_succ, List.setIfInBounds_toArray, List.set_cons_zero, List.set_cons_succ]
  refine wpAnyH_take (i := 16) (v := ?_) rfl (by kernel_rfl) (by kernel_rfl) (by kernel_rfl) (fun _ _ _ h => h) (Or.inl ⟨by rfl, ?_⟩) hHeld ?_
  rotate_left
  · intro W9 hSw; (try dsimp only at hSw); go_simp; (try with_reducible rfl)
  simp only [Act.put, List.getElem_toArray, List.getElem_cons_zero, List.getElem_cons_succ, List.setIfInBounds_toArray, List.set_cons_zero, List.set_cons_succ]
  refine wpAnyH_take (i := 17) (v := ?_) rfl (by kernel_rfl) (by kernel_rfl) (by kernel_rfl) (fun _ _ _ h => h) (Or.inl ⟨by rfl, ?_⟩) hHeld ?_
  rotate_left
  · intro W9 hSw; (try dsimp only at hSw); go_simp; (try with_reducible rfl)
  simp only [Act.put, List.getElem_toArray, List.getElem_cons_zero, List.getElem_cons_succ, List.setIfInBounds_toArray, List.set_cons_zero, List.set_cons_succ]
  refine wpAnyH_take (i := 18) (v := ?_) rfl (by kernel_rfl) (by kernel_rfl) (by kernel_rfl) (fun _ _ _ h => h) (Or.inl ⟨by rfl, ?_⟩) hHeld ?_
  rotate_left
  · intro W9 hSw; (try dsimp only at hSw); go_simp; (try with_reducible rfl)
  simp only [Act.put, List.getElem_toArray, List.getElem_cons_zero, List.getElem_cons_succ, List.setIfInBounds_toArray, List.set_cons_zero, List.set_cons_succ]
  refine wpAnyH_take (i := 19) (v := ?_) rfl (by kernel_rfl) (by kernel_rfl) (by kernel_rfl) (fun _ _ _ h => h) (Or.inl ⟨by rfl, ?_⟩) hHeld ?_
  rotate_left
  · intro W9 hSw; (try dsimp only at hSw); go_simp; (try with_reducible rfl)
  simp only [Act.put, List.getElem_toArray, List.getElem_cons_zero, List.getElem_cons_succ, List.setIfInBounds_toArray, List.set_cons_zero, List.set_cons_succ]
  refine wpAnyH_take (i := 20) (v := ?_) rfl (by kernel_rfl) (by kernel_rfl) (by kernel_rfl) (fun _ _ _ h => h) (Or.inl ⟨by rfl, ?_⟩) hHeld ?_
  rotate_left
  · intro W9 hSw; (try dsimp only at hSw); go_simp; (try with_reducible rfl)
  simp only [Act.put, List.getElem_toArray, List.getElem_cons_zero, List.getElem_cons_succ, List.setIfInBounds_toArray, List.set_cons_zero, List.set_cons_succ]
  refine wpAnyH_take (i := 21) (v := ?_) rfl (by kernel_rfl) (by kernel_rfl) (by kernel_rfl) (fun _ _ _ h => h) (Or.inl ⟨by rfl, ?_⟩) hHeld ?_
  rotate_left
  · intro W9 hSw; (try dsimp only at hSw); go_simp; (try with_reducible rfl)
  simp only [Act.put, List.getElem_toArray, List.getElem_cons_zero, List.getElem_cons_succ, List.setIfInBounds_toArray, List.set_cons_zero, List.set_cons_succ]
  refine wpAnyH_take (i := 22) (v := ?_) rfl (by kernel_rfl) (by kernel_rfl) (by kernel_rfl) (fun _ _ _ h => h) (Or.inl ⟨by rfl, ?_⟩) hHeld ?_
  rotate_left
  · intro W9 hSw; (try dsimp only at hSw); go_simp; (try with_reducible rfl)
  simp only [Act.put, List.getElem_toArray, List.getElem_cons_zero, List.getElem_cons_succ, List.setIfInBounds_toArray, List.set_cons_zero, List.set_cons_succ]
  refine wpAnyH_take (i := 23) (v := ?_) rfl (by kernel_rfl) (by kernel_rfl) (by kernel_rfl) (fun _ _ _ h => h) (Or.inl ⟨by rfl, ?_⟩) hHeld ?_
  rotate_left
  · intro W9 hSw; (try dsimp only at hSw); go_simp; (try with_reducible rfl)
  simp only [Act.put, List.getElem_toArray, List.getElem_cons_zero, List.getElem_cons_succ, List.setIfInBounds_toArray, List.set_cons_zero, List.set_cons_succ]
  refine wpAnyH_take (i := 24) (v := ?_) rfl (by kernel_rfl) (by kernel_rfl) (by kernel_rfl) (fun _ _ _ h => h) (Or.inl ⟨by rfl, ?_⟩) hHeld ?_
  rotate_left
  · intro W9 hSw; (try dsimp only at hSw); go_simp; (try with_reducible rfl)
  simp only [Act.put, List.getElem_toArray, List.getElem_cons_zero, List.getElem_cons_succ, List.setIfInBounds_toArray, List.set_cons_zero, List.set_cons_succ]
  refine wpAnyH_take (i := 25) (v := ?_) rfl (by kernel_rfl) (by kernel_rfl) (by kernel_rfl) (fun _ _ _ h => h) (Or.inl ⟨by rfl, ?_⟩) hHeld ?_
  rotate_left
  · intro W9 hSw; (try dsimp only at hSw); go_simp; (try with_reducible rfl)
  simp only [Act.put, List.getElem_toArray, List.getElem_cons_zero, List.getElem_cons_succ, List.setIfInBounds_toArray, List.set_cons_zero, List.set_cons_succ]
  refine wpAnyH_ready (rs := [26]) (by kernel_rfl) (by simp) ?_
  refine AllReadyH.cons rfl (fun K hK => ?_) AllReadyH.nil
  go_simp
  go_at_call 40
  refine (hCv.out _ (hb.out.trans (hb3.out.mono hb.out.size))).mono ?_
  rintro e w4 ⟨rfl, hb4⟩
  replace hb4 := Lib.hid (hb3.out.trans (hb4.mono hb3.out.size))
  refine hK.out _ _ (hS.out _ hb4.out) (fun hHeld2 => ?_)
  clear hK K hHeld
  have hHeld := hHeld2
  clear hHeld2
  refine wpAnyH_take (i := 27) (v := ?_) rfl (by kernel_rfl) (by kernel_rfl) (by kernel_rfl) (fun _ _ _ h => h) (Or.inl ⟨by rfl, ?_⟩) hHeld ?_
  rotate_left
  · intro W9 hSw; (try dsimp only at hSw); go_simp; (try with_reducible rfl)
  simp only [Act.put, List.getElem_toArray, List.getElem_cons_zero, List.getElem_cons_succ, List.setIfInBounds_toArray, List.set_cons_zero, List.set_cons_succ]
  refine wpAnyH_take (i := 28) (v := ?_) rfl (by kernel_rfl) (by kernel_rfl) (by kernel_rfl) (fun _ _ _ h => h) (Or.inl ⟨by rfl, ?_⟩) hHeld ?_
  rotate_left
  · intro W9 hSw; (try dsimp only at hSw); go_simp; (try with_reducible rfl)
  simp only [Act.put, List.getElem_toArray, List.getElem_cons_zero, List.getElem_cons_succ, List.setIfInBounds_toArray, List.set_cons_zero, List.set_cons_succ]
  refine wpAnyH_done (by kernel_rfl) ?_ _
  clear hHeld
  go_wp2_with fail
  go_ret
  exact ⟨PC.ri hE.out.symm, hb.out.trans (hb4.out.mono hb.out.size)⟩
set_option maxRecDepth 100000 in
set_option maxHeartbeats 8000000 in
theorem ck_main (A O V C : Option Addr) (l : List Ent) (o : List Int) (v : List Bool) (cc : List Int) (c co cv cq : Nat) (w : World) (hF : FH w A l c) (hM : RM w O V o v) (hC : RecAt iEnc 1 w w.heap.size C cc) (hol : o.length ≤ 100000) (hvl : v.length ≤ 100000) (hcl : cc.length ≤ 100000) (hv : okF l) (h7 : l.length ≤ 7) (hT : TabOK w) (hval : valR l o v ≠ -1) (hlen : cc.length = 2 ^ szE l) (hz : oE cc 0 = 0) (hla : oE cc (2 ^ szE l - 1) = valR l o v) : Calls Tryd.prog 26 #[.slice A l.length c, .agg #[.slice O o.length co, .slice V v.length cv], .slice C cc.length cq] w fun e w' => e = .returned (.int .i64 (chkE l o v cc)) ∧ Below w.heap.size w w' := by
  have hX := Lib.hid (RB.new w (.slice O o.length co) (.slice V v.length cv))
  have hb : Hid (Below w.heap.size w (w.alloc (.cells #[.slice O o.length co, .slice V v.length cv] 30))) := (Below.refl _ _).alloc (Nat.le_refl _) _
  have hVd : Hid (∀ W, Below w.heap.size w W → Calls Tryd.prog 10 #[.slice A l.length c] W fun e w' => e = .returned (.bool true) ∧ Below W.heap.size W w') := fun W h => fB_true hv ▸ (hF.next h).pvalid
  have hps : Hid (∀ W, Calls Tryd.prog 34 #[.slice A l.length c] W fun e w' => e = .returned (.int .i64 (szE l : Int)) ∧ W = w') := fun W => psize A l c W hF.len
  obtain ⟨n, hn⟩ : ∃ n, szE l = n := ⟨_, rfl⟩
  have hn8 : n ≤ 8 := by have := (szE_le h7).1; omega
  have hn2 : 2 ≤ n := by have h := hv.1; have h2 : szE l = l.length + l.length % 2 := rfl; omega
  rw [hn] at hps
  obtain ⟨N, hN⟩ : ∃ N, 2 ^ n = N := ⟨_, rfl⟩
  have hN256 : N ≤ 256 := by rw [← hN]; exact full_lt hn8
  have hN4 : 4 ≤ N := by
    have h1 : 2 ^ 2 ≤ 2 ^ n := Nat.pow_le_pow_right (show 2 > 0 by decide) hn2
    omega
  have gN : IntKind.i64.wrap (2 ^ n) = (N : Int) := by
    have e : ((2 : Int) ^ n) = (N : Int) := by rw [← hN, Int.natCast_pow]; rfl
    rw [e]; exact i64_nat (by omega)
  have n0 : (0 : Int) ≤ (n : Int) := Int.natCast_nonneg _
  have n64 : (n : Int) ≤ 64 := by omega
  have hNs : 2 ^ szE l = N := by rw [hn]; exact hN
  obtain ⟨K, hK⟩ : ∃ K, valR l o v = K := ⟨_, rfl⟩
  have hCv : Hid (∀ W, Below w.heap.size w W → Calls Tryd.prog 40 #[.slice A l.length c, .agg #[.slice O o.length co, .slice V v.length cv]] W fun e w' => e = .returned (.int .i64 K) ∧ Below W.heap.size W w') := fun W h => hK ▸ pvalue A O V l o v c co cv W (hF.next h) hv (hM.next h) hol hvl
  have hGood : Hid (rowsK l cc N → chkE l o v cc = 0) := fun h => chkE_yes ⟨hval, ⟨hlen, hz, by rw [hNs]; exact h⟩, hla⟩
  have hBad : Hid (∀ s, s < N → ¬ rowK l cc s → chkE l o v cc = 10) := fun s hs h => chkE_no fun hh => h (hh.2.1.2.2 s (by rw [hNs]; exact hs))
  rw [hNs] at hlen
  obtain ⟨bc, oc, rfl, hbcl, hcc⟩ := hC (by omega)
  have hcH : Hid (∀ (k : Nat) (x : Int), cc[k]? = some x → w.cell? ⟨bc, oc + k, none⟩ = some (.int .i64 x)) := fun k x hx => by have := hcc k x hx 0 _ rfl; rwa [Nat.mul_one] at this
  have hbc : Hid (bc < w.heap.size) := hbcl
  have q1 : (K == -1) = false := by rw [beq_eq_false_iff_ne, ← hK]; exact hval
  have q2 : ((N : Int) != (N : Int)) = false := bne_self_eq_false _
  obtain ⟨y0, hy0⟩ : ∃ y, cc[0]? = some y := ⟨_, List.getElem?_eq_getElem (by omega)⟩
  have z0 : Hid (w.cell? ⟨bc, oc, none⟩ = some (.int .i64 y0)) := hcH.out 0 y0 hy0
  have hN0 : (0 : Int) < (N : Int) := by omega
  have hN0n : 0 < N := by omega
  have hN0t : (0 < N) = True := eq_true hN0n
  rw [hlen]
  have q3 : (y0 != 0) = false := by rw [bne_eq_false_iff_eq]; rw [oE_eq hy0] at hz; exact hz
  obtain ⟨R, hR⟩ : ∃ R, N - 1 = R := ⟨_, rfl⟩
  have gR : IntKind.i64.wrap ((N : Int) - 1) = (R : Int) := by rw [show (N : Int) - 1 = (R : Int) by omega]; exact i64_nat (by omega)
  have hRN : (R : Int) < (N : Int) := by omega
  have hR0 : (0 : Int) ≤ (R : Int) := Int.natCast_nonneg _
  obtain ⟨y1, hy1⟩ : ∃ y, cc[R]? = some y := ⟨_, List.getElem?_eq_getElem (by omega)⟩
  have z1 : Hid (w.cell? ⟨bc, oc + R, none⟩ = some (.int .i64 y1)) := hcH.out R y1 hy1
  have q4 : (y1 != K) = false := by
    rw [bne_eq_false_iff_eq, ← hK]
    rw [hNs, hR, oE_eq hy1] at hla; exact hla
  have hFH := Lib.hid hF
  have hvH := Lib.hid hv
  have hTH := Lib.hid hT
  have hnH := Lib.hid hn
  have hlH := Lib.hid hlen
  have hNH := Lib.hid hN
  clear hF hM hC hv hT hK hN hn hNs hval hlen hy0 hy1 hcc hbcl hz hla hR
  go_enter Tryd.func26, Tryd.ntmps26
  go_upto_region 1 with fail
  generalize w.heap.size = B0 at hX ⊢
  generalize w.alloc (.cells #[.slice O o.length co, .slice V v.length cv] 30) = u at *
  go_wp2_with fail
  go_at_call 10
  refine (hVd.out _ hb.out).mono ?_
  rintro e u ⟨rfl, hbn⟩
  replace hX := Lib.hid (hX.out.next hbn)
  replace hb := Lib.hid (hb.out.trans (hbn.mono hb.out.size))
  clear hbn hVd
  go_wp2_with fail
  go_at_call 34
  refine (hps.out _).mono ?_
  rintro e u9 ⟨rfl, rfl⟩
  clear hps
  go_upto_region 4 with fail
  have hS : Hid (∀ W, Below u.heap.size u W → W.cell? ⟨B0, 0, none⟩ = some (.slice O o.length co) ∧ W.cell? ⟨B0, 1, none⟩ = some (.slice V v.length cv) ∧ W.cell? ⟨bc, oc, none⟩ = some (.int .i64 y0) ∧ W.cell? ⟨bc, oc + R, none⟩ = some (.int .i64 y1)) := fun W h => ⟨(hX.out.next h).c0, (hX.out.next h).c1, ((hb.out.trans (h.mono hb.out.size)).cell (p := ⟨bc, oc, none⟩) hbc.out).trans z0.out, ((hb.out.trans (h.mono hb.out.size)).cell (p := ⟨bc, oc + R, none⟩) hbc.out).trans z1.out⟩
  refine wp_region_held_drew (S := fun W => W.cell? ⟨B0, 0, none⟩ = some (.slice O o.length co) ∧ W.cell? ⟨B0, 1, none⟩ = some (.slice V v.length cv) ∧ W.cell? ⟨bc, oc, none⟩ = some (.int .i64 y0) ∧ W.cell? ⟨bc, oc + R, none⟩ = some (.int .i64 y1)) (by kernel_rfl) (hS.out _ ((Below.refl _ _).drew)) (fun hHeld => ?_)
  refine wpAnyH_take (i := 0) (v := ?_) rfl (by kernel_rfl) (by kernel_rfl) (by kernel_rfl) (fun _ _ _ h => h) (Or.inl ⟨by rfl, ?_⟩) hHeld ?_
  rotate_left
  · intro W9 hSw; (try dsimp only at hSw); go_simp; (try with_reducible rfl)
  simp only [Act.put, List.getElem_toArray, List.getElem_cons_zero, List.getElem_cons_succ, List.setIfInBounds_toArray, List.set_cons_zero, List.set_cons_succ]
  refine wpAnyH_take (i := 1) (v := ?_) rfl (by kernel_rfl) (by kernel_rfl) (by kernel_rfl) (fun _ _ _ h => h) (Or.inl ⟨by rfl, ?_⟩) hHeld ?_
  rotate_left
  · intro W9 hSw; (try dsimp only at hSw); go_simp; (try with_reducible rfl)
  simp only [Act.put, List.getElem_toArray, List.getElem_cons_zero, List.getElem_cons_succ, List.setIfInBounds_toArray, List.set_cons_zero, List.set_cons_succ]
  refine wpAnyH_ready (rs := [2]) (by kernel_rfl) (by simp) ?_
  refine AllReadyH.cons rfl (fun K hK => ?_) AllReadyH.nil
  go_simp
  go_at_call 40
  refine (hCv.out _ (hb.out.trans ((Below.refl _ _).drew.mono hb.out.size))).mono ?_
  rintro e w3 ⟨rfl, hb3⟩
  replace hb3 := Lib.hid (undrew hb3)
  refine hK.out _ _ (hS.out _ hb3.out) (fun hHeld2 => ?_)
  clear hK K hHeld
  have hHeld := hHeld2
  clear hHeld2
  refine wpAnyH_take (i := 3) (v := ?_) rfl (by kernel_rfl) (by kernel_rfl) (by kernel_rfl) (fun _ _ _ h => h) (Or.inl ⟨by rfl, ?_⟩) hHeld ?_
  rotate_left
  · intro W9 hSw; (try dsimp only at hSw); go_simp; (try with_reducible rfl)
  simp only [Act.put, List.getElem_toArray, List.getElem_cons_zero, List.getElem_cons_succ, List.setIfInBounds_toArray, List.set_cons_zero, List.set_cons_succ]
  refine wpAnyH_take (i := 4) (v := ?_) rfl (by kernel_rfl) (by kernel_rfl) (by kernel_rfl) (fun _ _ _ h => h) (Or.inl ⟨by rfl, ?_⟩) hHeld ?_
  rotate_left
  · intro W9 hSw; (try dsimp only at hSw); go_simp; (try with_reducible rfl)
  simp only [Act.put, List.getElem_toArray, List.getElem_cons_zero, List.getElem_cons_succ, List.setIfInBounds_toArray, List.set_cons_zero, List.set_cons_succ]
  refine wpAnyH_take (i := 5) (v := ?_) rfl (by kernel_rfl) (by kernel_rfl) (by kernel_rfl) (fun _ _ _ h => h) (Or.inl ⟨by rfl, ?_⟩) hHeld ?_
  rotate_left
  · intro W9 hSw; (try dsimp only at hSw); go_simp; (try with_reducible rfl)
  simp only [Act.put, List.getElem_toArray, List.getElem_cons_zero, List.getElem_cons_succ, List.setIfInBounds_toArray, List.set_cons_zero, List.set_cons_succ]
  refine wpAnyH_take (i := 6) (v := ?_) rfl (by kernel_rfl) (by kernel_rfl) (by kernel_rfl) (fun _ _ _ h => h) (Or.inl ⟨by rfl, ?_⟩) hHeld ?_
  rotate_left
  · intro W9 hSw; (try dsimp only at hSw); go_simp; (try with_reducible rfl)
  simp only [Act.put, List.getElem_toArray, List.getElem_cons_zero, List.getElem_cons_succ, List.setIfInBounds_toArray, List.set_cons_zero, List.set_cons_succ]
  refine wpAnyH_take (i := 7) (v := ?_) rfl (by kernel_rfl) (by kernel_rfl) (by kernel_rfl) (fun _ _ _ h => h) (Or.inl ⟨by rfl, ?_⟩) hHeld ?_
  rotate_left
  · intro W9 hSw; (try dsimp only at hSw); go_simp; (try with_reducible rfl)
  simp only [Act.put, List.getElem_toArray, List.getElem_cons_zero, List.getElem_cons_succ, List.setIfInBounds_toArray, List.set_cons_zero, List.set_cons_succ]
  refine wpAnyH_take (i := 8) (v := ?_) rfl (by kernel_rfl) (by kernel_rfl) (by kernel_rfl) (fun _ _ _ h => h) (Or.inl ⟨by rfl, ?_⟩) hHeld ?_
  rotate_left
  · intro W9 hSw; (try dsimp only at hSw); go_simp; (try with_reducible rfl)
  simp only [Act.put, List.getElem_toArray, List.getElem_cons_zero, List.getElem_cons_succ, List.setIfInBounds_toArray, List.set_cons_zero, List.set_cons_succ]
  refine wpAnyH_take (i := 9) (v := ?_) rfl (by kernel_rfl) (by kernel_rfl) (by kernel_rfl) (fun _ _ _ h => h) (Or.inl ⟨by rfl, ?_⟩) hHeld ?_
  rotate_left
  · intro W9 hSw; (try dsimp only at hSw); go_simp; (try with_reducible rfl)
  simp only [Act.put, List.getElem_toArray, List.getElem_cons_zero, List.getElem_cons_succ, List.setIfInBounds_toArray, List.set_cons_zero, List.set_cons_succ]
  refine wpAnyH_take (i := 10) (v := ?_) rfl (by kernel_rfl) (by kernel_rfl) (by kernel_rfl) (fun _ _ _ h => h) (Or.inl ⟨by rfl, ?_⟩) hHeld ?_
  rotate_left
  · intro W9 hSw; (try dsimp only at hSw); go_simp; (try with_reducible rfl)
  simp only [Act.put, List.getElem_toArray, List.getElem_cons_zero, List.getElem_cons_succ, List.setIfInBounds_toArray, List.set_cons_zero, List.set_cons_succ]
  refine wpAnyH_take (i := 11) (v := ?_) rfl (by kernel_rfl) (by kernel_rfl) (by kernel_rfl) (fun _ _ _ h => h) (Or.inl ⟨by rfl, ?_⟩) hHeld ?_
  rotate_left
  · intro W9 hSw; (try dsimp only at hSw); go_simp; (try with_reducible rfl)
  simp only [Act.put, List.getElem_toArray, List.getElem_cons_zero, List.getElem_cons_succ, List.setIfInBounds_toArray, List.set_cons_zero, List.set_cons_succ]
  refine wpAnyH_take (i := 12) (v := ?_) rfl (by kernel_rfl) (by kernel_rfl) (by kernel_rfl) (fun _ _ _ h => h) (Or.inl ⟨by rfl, ?_⟩) hHeld ?_
  rotate_left
  · intro W9 hSw; (try dsimp only at hSw); go_simp; (try with_reducible rfl)
  simp only [Act.put, List.getElem_toArray, List.getElem_cons_zero, List.getElem_cons_succ, List.setIfInBounds_toArray, List.set_cons_zero, List.set_cons_succ]
  refine wpAnyH_take (i := 13) (v := ?_) rfl (by kernel_rfl) (by kernel_rfl) (by kernel_rfl) (fun _ _ _ h => h) (Or.inl ⟨by rfl, ?_⟩) hHeld ?_
  rotate_left
  · intro W9 hSw; (try dsimp only at hSw); go_simp; (try with_reducible rfl)
  simp only [Act.put, List.getElem_toArray, List.getElem_cons_zero, List.getElem_cons_succ, List.setIfInBounds_toArray, List.set_cons_zero, List.set_cons_succ]
  refine wpAnyH_take (i := 14) (v := ?_) rfl (by kernel_rfl) (by kernel_rfl) (by kernel_rfl) (fun _ _ _ h => h) (Or.inl ⟨by rfl, ?_⟩) hHeld ?_
  rotate_left
  · intro W9 hSw; (try dsimp only at hSw); go_simp; (try with_reducible rfl)
  simp only [Act.put, List.getElem_toArray, List.getElem_cons_zero, List.getElem_cons_succ, List.setIfInBounds_toArray, List.set_cons_zero, List.set_cons_succ]
  refine wpAnyH_take (i := 15) (v := ?_) rfl (by kernel_rfl) (by kernel_rfl) (by kernel_rfl) (fun _ _ _ h => h) (Or.inl ⟨by rfl, ?_⟩) hHeld ?_
  rotate_left
  · intro W9 hSw; (try dsimp only at hSw); go_simp; (try with_reducible rfl)
  simp only [Act.put, List.getElem_toArray, List.getElem_cons_zero, List.getElem_cons_succ, List.setIfInBounds_toArray, List.set_cons_zero, List.set_cons_succ]
  refine wpAnyH_take (i := 16) (v := ?_) rfl (by kernel_rfl) (by kernel_rfl) (by kernel_rfl) (fun _ _ _ h => h) (Or.inl ⟨by rfl, ?_⟩) hHeld ?_
  rotate_left
  · intro W9 hSw; (try dsimp only at hSw); go_simp; (try with_reducible rfl)
  simp only [Act.put, List.getElem_toArray, List.getElem_cons_zero, List.getElem_cons_succ, List.setIfInBounds_toArray, List.set_cons_zero, List.set_cons_succ]
  refine wpAnyH_take (i := 17) (v := ?_) rfl (by kernel_rfl) (by kernel_rfl) (by kernel_rfl) (fun _ _ _ h => h) (Or.inl ⟨by rfl, ?_⟩) hHeld ?_
  rotate_left
  · intro W9 hSw; (try dsimp only at hSw); go_simp; (try with_reducible rfl)
  simp only [Act.put, List.getElem_toArray, List.getElem_cons_zero, List.getElem_cons_succ, List.setIfInBounds_toArray, List.set_cons_zero, List.set_cons_succ]
  refine wpAnyH_take (i := 18) (v := ?_) rfl (by kernel_rfl) (by kernel_rfl) (by kernel_rfl) (fun _ _ _ h => h) (Or.inl ⟨by rfl, ?_⟩) hHeld ?_
  rotate_left
  · intro W9 hSw; (try dsimp only at hSw); go_simp; (try with_reducible rfl)
  simp only [Act.put, List.getElem_toArray, List.getElem_cons_zero, List.getElem_cons_succ, List.setIfInBounds_toArray, List.set_cons_zero, List.set_cons_succ]
  refine wpAnyH_take (i := 19) (v := ?_) rfl (by kernel_rfl) (by kernel_rfl) (by kernel_rfl) (fun _ _ _ h => h) (Or.inl ⟨by rfl, ?_⟩) hHeld ?_
  rotate_left
  · intro W9 hSw; (try dsimp only at hSw); go_simp; (try with_reducible rfl)
  simp only [Act.put, List.getElem_toArray, List.getElem_cons_zero, List.getElem_cons_succ, List.setIfInBounds_toArray, List.set_cons_zero, List.set_cons_succ]
  refine wpAnyH_take (i := 20) (v := ?_) rfl (by kernel_rfl) (by kernel_rfl) (by kernel_rfl) (fun _ _ _ h => h) (Or.inl ⟨by rfl, ?_⟩) hHeld ?_
  rotate_left
  · intro W9 hSw; (try dsimp only at hSw); go_simp; (try with_reducible rfl)
  simp only [Act.put, List.getElem_toArray, List.getElem_cons_zero, List.getElem_cons_succ, List.setIfInBounds_toArray, List.set_cons_zero, List.set_cons_succ]
  refine wpAnyH_take (i := 21) (v := ?_) rfl (by kernel_rfl) (by kernel_rfl) (by kernel_rfl) (fun _ _ _ h => h) (Or.inl ⟨by rfl, ?_⟩) hHeld ?_
  rotate_left
  · intro W9 hSw; (try dsimp only at hSw); go_simp; (try with_reducible rfl)
  simp only [Act.put, List.getElem_toArray, List.getElem_cons_zero, List.getElem_cons_succ, List.setIfInBounds_toArray, List.set_cons_zero, List.set_cons_succ]
  refine wpAnyH_take (i := 22) (v := ?_) rfl (by kernel_rfl) (by kernel_rfl) (by kernel_rfl) (fun _ _ _ h => h) (Or.inl ⟨by rfl, ?_⟩) hHeld ?_
  rotate_left
  · intro W9 hSw; (try dsimp only at hSw); go_simp; (try with_reducible rfl)
  simp only [Act.put, List.getElem_toArray, List.getElem_cons_zero, List.getElem_cons_succ, List.setIfInBounds_toArray, List.set_cons_zero, List.set_cons_succ]
  refine wpAnyH_take (i := 23) (v := ?_) rfl (by kernel_rfl) (by kernel_rfl) (by kernel_rfl) (fun _ _ _ h => h) (Or.inl ⟨by rfl, ?_⟩) hHeld ?_
  rotate_left
  · intro W9 hSw; (try dsimp only at hSw); go_simp; (try with_reducible rfl)
  simp only [Act.put, List.getElem_toArray, List.getElem_cons_zero, List.getElem_cons_succ, List.setIfInBounds_toArray, List.set_cons_zero, List.set_cons_succ]
  refine wpAnyH_take (i := 24) (v := ?_) rfl (by kernel_rfl) (by kernel_rfl) (by kernel_rfl) (fun _ _ _ h => h) (Or.inl ⟨by rfl, ?_⟩) hHeld ?_
  rotate_left
  · intro W9 hSw; (try dsimp only at hSw); go_simp; (try with_reducible rfl)
  simp only [Act.put, List.getElem_toArray, List.getElem_cons_zero, List.getElem_cons_succ, List.setIfInBounds_toArray, List.set_cons_zero, List.set_cons_succ]
  refine wpAnyH_take (i := 25) (v := ?_) rfl (by kernel_rfl) (by kernel_rfl) (by kernel_rfl) (fun _ _ _ h => h) (Or.inl ⟨by rfl, ?_⟩) hHeld ?_
  rotate_left
  · intro W9 hSw; (try dsimp only at hSw); go_simp; (try with_reducible rfl)
  simp only [Act.put, List.getElem_toArray, List.getElem_cons_zero, List.getElem_cons_succ, List.setIfInBounds_toArray, List.set_cons_zero, List.set_cons_succ]
  refine wpAnyH_ready (rs := [26]) (by kernel_rfl) (by simp) ?_
  refine AllReadyH.cons rfl (fun K hK => ?_) AllReadyH.nil
  go_simp
  go_at_call 40
  refine (hCv.out _ (hb.out.trans (hb3.out.mono hb.out.size))).mono ?_
  rintro e w4 ⟨rfl, hb4⟩
  replace hb4 := Lib.hid (hb3.out.trans (hb4.mono hb3.out.size))
  refine hK.out _ _ (hS.out _ hb4.out) (fun hHeld2 => ?_)
  clear hK K hHeld
  have hHeld := hHeld2
  clear hHeld2
  refine wpAnyH_take (i := 27) (v := ?_) rfl (by kernel_rfl) (by kernel_rfl) (by kernel_rfl) (fun _ _ _ h => h) (Or.inl ⟨by rfl, ?_⟩) hHeld ?_
  rotate_left
  · intro W9 hSw; (try dsimp only at hSw); go_simp; (try with_reducible rfl)
  simp only [Act.put, List.getElem_toArray, List.getElem_cons_zero, List.getElem_cons_succ, List.setIfInBounds_toArray, List.set_cons_zero, List.set_cons_succ]
  refine wpAnyH_take (i := 28) (v := ?_) rfl (by kernel_rfl) (by kernel_rfl) (by kernel_rfl) (fun _ _ _ h => h) (Or.inl ⟨by rfl, ?_⟩) hHeld ?_
  rotate_left
  · intro W9 hSw; (try dsimp only at hSw); go_simp; (try with_reducible rfl)
  simp only [Act.put, List.getElem_toArray, List.getElem_cons_zero, List.getElem_cons_succ, List.setIfInBounds_toArray, List.set_cons_zero, List.set_cons_succ]
  refine wpAnyH_done (by kernel_rfl) ?_ _
  clear hHeld hS hb3 hCv q1 q2 q3 q4 z0 z1 gR hRN hR0 hX gN
  have hbw : Hid (Below w.heap.size w w4) := hb.out.trans (hb4.out.mono hb.out.size)
  clear hb hb4
  go_wp2_with fail
  go_loopw [49] (fun i wr => ∃ k : Nat, k ≤ N ∧ i = .int .i64 k ∧ Hid (rowsK l cc k) ∧ Hid (Below w.heap.size w wr)) (fun i _ => N - (intOf i).toNat)
  case atStart => exact ⟨0, by omega, rfl, fun s hs => absurd hs (Nat.not_lt_zero _), hbw⟩
  case round =>
    clear hbw
    obtain ⟨k, hk, rfl, hrows, hB⟩ := hrel
    have hk0 : (0 : Int) ≤ (k : Int) := Int.natCast_nonneg _
    by_cases hkn : k < N
    rotate_left
    · obtain rfl : k = N := by omega
      have hE : Hid (chkE l o v cc = 0) := hGood.out hrows.out
      go_wp2_with fail
      go_ret
      exact ⟨PC.ri hE.out.symm, hB.out⟩
    have hkI : (k : Int) < (N : Int) := by omega
    obtain ⟨x, hx⟩ : ∃ x, cc[k]? = some x := ⟨_, List.getElem?_eq_getElem (by have := hlH.out; omega)⟩
    have hxe := oE_eq hx
    have e0 := (hB.out.cell (p := ⟨bc, oc + k, none⟩) hbc.out).trans (hcH.out k x hx)
    clear hx
    by_cases hin : inK cc k
    rotate_left
    · have hE : Hid (chkE l o v cc = 10) := hBad.out k hkn (fun h => hin h.1)
      have hI : inB x (-1) 1099511627776 = false := inB_no (by unfold inK at hin; rw [hxe] at hin; omega)
      clear hin hxe
      go_wp2_with (first | (go_at_call 30; refine (pwithin _ _ _ _).mono ?_; rintro e w' ⟨rfl, rfl⟩))
      go_ret
      exact ⟨PC.ri hE.out.symm, hB.out⟩
    have hinH := Lib.hid hin
    have hxb : -1 ≤ x ∧ x ≤ 1099511627776 := by unfold inK at hin; rw [hxe] at hin; exact hin
    have hI : inB x (-1) 1099511627776 = true := inB_yes hxb.1 hxb.2
    clear hin
    by_cases hz0 : k = 0
    · have q0 : ((k : Int) == 0) = true := by rw [beq_iff_eq]; omega
      have hnew : Hid (rowsK l cc (k + 1)) := hrows.out.succ ⟨hinH.out, fun h => absurd hz0 h⟩
      clear hz0 hxe
      go_wp2_with (first | (go_at_call 30; refine (pwithin _ _ _ _).mono ?_; rintro e w' ⟨rfl, rfl⟩))
      go_roundw
      case rel => exact ⟨k + 1, by omega, by go_num, hnew, hB⟩
      case measure => simp [intOf]; omega
    have q0 : ((k : Int) == 0) = false := by rw [beq_eq_false_iff_ne]; omega
    have gu : IntKind.u64.wrap (k : Int) = (k : Int) := by rw [IntKind.wrap_u64]; omega
    have hpo : Hid (∀ W, Calls Tryd.prog 41 #[.int .u64 (k : Int)] W fun e w' => e = .returned (.int .i64 (cntE k : Int)) ∧ W = w') := fun W => poc k W (by omega)
    have htm := tmod_two (cntE k)
    have hr2 : cntE k % 2 < 2 := Nat.mod_lt _ (by decide)
    have hwm : IntKind.i64.wrap ((cntE k % 2 : Nat) : Int) = ((cntE k % 2 : Nat) : Int) := IntWalk.i64_in _ (by omega)
    by_cases hodd : cntE k % 2 = 0
    rotate_left
    · have h1 : cntE k % 2 = 1 := by omega
      rw [h1] at htm hwm
      have hnew : Hid (rowsK l cc (k + 1)) := hrows.out.succ ⟨hinH.out, fun _ h => absurd h hodd⟩
      clear hodd h1 hr2 hxe
      generalize cntE k = cnt at *
      go_wp2_with (first | (go_at_call 30; refine (pwithin _ _ _ _).mono ?_; rintro e w' ⟨rfl, rfl⟩) | (go_at_call 41; refine (hpo.out _).mono ?_; rintro e w' ⟨rfl, rfl⟩))
      go_roundw
      case rel => exact ⟨k + 1, by omega, by go_num, hnew, hB⟩
      case measure => simp [intOf]; omega
    rw [hodd] at htm hwm
    have hpz : Hid (Calls Tryd.prog 33 #[.int .u64 (k : Int)] wr fun e w' => e = .returned (.int .i64 (lowE k : Int)) ∧ wr = w') := ptz k _ (by omega) (by omega) (hTH.out.next hB.out)
    obtain ⟨l1, l2, l3⟩ := low_in (show k < 256 by omega) hz0
    have hln : lowE k < n := bit_lt (n := n) (s := k) (by rw [hNH.out]; exact hkn) l1
    have hlen2 : lowE k < l.length := by
      have h1 := low_len (len := l.length) (s := k) (by omega) (by have h2 : szE l = l.length + l.length % 2 := rfl; rw [← h2, hnH.out, hNH.out]; exact hkn) (by omega) hz0 hodd
      exact h1
    have hRow : Hid ((∀ j, lowE k < j → j < n → pairK l cc k j) → rowsK l cc (k + 1)) := fun h => hrows.out.succ ⟨hinH.out, fun _ _ j h1 h2 => h j h1 (by rw [← hnH.out]; exact h2)⟩
    have hBadj : Hid (∀ j, lowE k < j → j < n → ¬ pairK l cc k j → chkE l o v cc = 10) := fun j h1 h2 h3 => hBad.out k hkn (fun h => h3 (h.2 hz0 hodd j h1 (by rw [hnH.out]; exact h2)))
    have hpk : Hid (∀ j, pairK l cc k j ↔ (k.testBit j = true → cst l (lowE k) j ≠ -1 → oE cc (restN k (lowE k) j) ≠ -1 → x ≠ -1 ∧ x ≤ oE cc (restN k (lowE k) j) + cst l (lowE k) j)) := fun j => by unfold pairK; rw [hxe]
    have hco : Hid (∀ (j : Nat), lowE k < j → j < n → ∀ W, Below w.heap.size w W → Calls Tryd.prog 38 #[.slice A l.length c, .int .i64 (lowE k : Int), .int .i64 (j : Int)] W fun e w' => e = .returned (.int .i64 (cst l (lowE k) j)) ∧ Below W.heap.size W w') := fun j h1 h2 W h => (hFH.out.next h).pcost hvH.out h1 (by have h3 : szE l = l.length + l.length % 2 := rfl; have := hnH.out; omega) (by omega) (by omega)
    have l1H := Lib.hid l1
    clear hodd hr2 hxe l3 l1
    generalize lowE k = i at *
    have gi : IntKind.i64.wrap ((i : Int) + 1) = ((i + 1 : Nat) : Int) := by rw [show (i : Int) + 1 = ((i + 1 : Nat) : Int) by omega]; exact i64_nat (by omega)
    generalize cntE k = cnt at *
    go_wp2_with (first | (go_at_call 30; refine (pwithin _ _ _ _).mono ?_; rintro e w' ⟨rfl, rfl⟩) | (go_at_call 41; refine (hpo.out _).mono ?_; rintro e w' ⟨rfl, rfl⟩) | (go_at_call 33; refine hpz.out.mono ?_; rintro e w' ⟨rfl, rfl⟩))
    clear hpo hpz htm hwm gu e0 hI q0
    obtain ⟨wo, hwo⟩ : ∃ wo, wo = wr := ⟨_, rfl⟩
    subst hwo
    go_loopw [11] (fun j wr => ∃ J : Nat, i + 1 ≤ J ∧ J ≤ n ∧ j = .int .i64 (J : Int) ∧ Hid (∀ q, i < q → q < J → pairK l cc k q) ∧ Hid (Below w.heap.size w wr)) (fun j _ => n - (intOf j).toNat)
    case atStart => exact ⟨i + 1, by omega, by omega, by go_num, fun q h1 h2 => by omega, hB⟩
    case round =>
      clear hB
      obtain ⟨J, hJ1, hJ2, rfl, hpq, hB⟩ := hrel
      by_cases hJn : J < n
      rotate_left
      · have hnew : Hid (rowsK l cc (k + 1)) := hRow.out (fun j h1 h2 => hpq.out j h1 (by omega))
        have hge : ¬ (J : Int) < (n : Int) := by omega
        go_wp2_with fail
        go_roundw
        case rel => exact ⟨k + 1, by omega, by go_num, hnew, hB⟩
        case measure => simp [intOf]; omega
      have hJI : (J : Int) < (n : Int) := by omega
      have hJ0 : (0 : Int) ≤ (J : Int) := Int.natCast_nonneg _
      have hJ64 : (J : Int) ≤ 64 := by omega
      have hdp := div_pow k J
      have hbt := bit_of k J
      obtain ⟨q, hq⟩ : ∃ q, k / 2 ^ J = q := ⟨_, rfl⟩
      have hqs : q ≤ k := by rw [← hq]; exact Nat.div_le_self _ _
      rw [hq] at hdp hbt
      have hba := bit_and q (by omega)
      have gJ : IntKind.i64.wrap ((J : Int) + 1) = ((J + 1 : Nat) : Int) := by rw [show (J : Int) + 1 = ((J + 1 : Nat) : Int) by omega]; exact i64_nat (by omega)
      clear hq
      have hstep : Hid (pairK l cc k J → ∀ q, i < q → q < J + 1 → pairK l cc k q) := fun h q h1 h2 => by
        by_cases e : q = J
        · subst e; exact h
        · exact hpq.out q h1 (by omega)
      by_cases hq1 : q % 2 = 1
      rotate_left
      · have hq0 : q % 2 = 0 := by omega
        rw [hq0] at hba
        have hnew : Hid (∀ q, i < q → q < J + 1 → pairK l cc k q) := hstep.out ((hpk.out J).2 fun h => by rw [hbt, decide_eq_true_eq] at h; omega)
        clear hbt hq1 hq0
        go_wp2_with fail
        go_roundw
        case rel => exact ⟨J + 1, by omega, by omega, by go_num, hnew, hB⟩
        case measure => simp [intOf]; omega
      rw [hq1] at hba
      have bJ : k.testBit J = true := by rw [hbt]; exact decide_eq_true hq1
      have hcj := Lib.hid (hco.out J (by omega) hJn)
      have hkp := Lib.hid (hpk.out J)
      have hcb := cst_bd hvH.out.num i J
      obtain ⟨r1, r2, _, r4⟩ := rest_eq (show k < 256 by omega) (by omega) (show J < 8 by omega) (by omega) l1H.out bJ
      obtain ⟨R2, hRe⟩ : ∃ R, restN k i J = R := ⟨_, rfl⟩
      rw [hRe] at r1 r2
      obtain ⟨x2, hx2⟩ : ∃ x, cc[R2]? = some x := ⟨_, List.getElem?_eq_getElem (by have := hlH.out; omega)⟩
      have hx2b : -1 ≤ x2 ∧ x2 ≤ 1099511627776 := by
        have h1 := (hrows.out R2 r2).1
        unfold inK at h1
        rwa [oE_eq hx2] at h1
      rw [hRe, oE_eq hx2] at hkp
      have hcR : ∀ W, Below w.heap.size w W → W.cell? ⟨bc, oc + R2, none⟩ = some (.int .i64 x2) := fun W h => (h.cell (p := ⟨bc, oc + R2, none⟩) hbc.out).trans (hcH.out R2 x2 hx2)
      obtain ⟨Kc, hKc⟩ : ∃ Kc, cst l i J = Kc := ⟨_, rfl⟩
      rw [hKc] at hcj hkp hcb
      replace hcR := Lib.hid hcR
      clear hbt hq1 hx2 hKc
      by_cases m1 : Kc = -1
      · have q5 : (Kc == -1) = true := by rw [beq_iff_eq]; exact m1
        have hnew : Hid (∀ q, i < q → q < J + 1 → pairK l cc k q) := hstep.out (hkp.out.2 fun _ h => absurd m1 h)
        clear m1 r1 r2 r4 hRe hcR
        go_wp2_with fail
        go_at_call 38
        refine (hcj.out _ hB.out).mono ?_
        rintro e w5 ⟨rfl, hbn⟩
        replace hB := Lib.hid (hB.out.trans (hbn.mono hB.out.size))
        clear hbn
        go_wp2_with fail
        go_roundw
        case rel => exact ⟨J + 1, by omega, by omega, by go_num, hnew, hB⟩
        case measure => simp [intOf]; omega
      have q5 : (Kc == -1) = false := by rw [beq_eq_false_iff_ne]; exact m1
      have z3 := Nat.two_pow_pos i
      have z4 := Nat.two_pow_pos J
      have p1 : 2 ^ i < 256 := by omega
      have p2 : 2 ^ J < 256 := by omega
      obtain ⟨p, hp⟩ : ∃ p, 2 ^ i = p := ⟨_, rfl⟩
      obtain ⟨q2, hq2⟩ : ∃ q, 2 ^ J = q := ⟨_, rfl⟩
      rw [hp, hq2] at r1
      rw [hp] at p1
      rw [hq2] at p2
      have g1 : IntKind.i64.wrap (2 ^ i) = (p : Int) := by
        have e : ((2 : Int) ^ i) = (p : Int) := by rw [← hp, Int.natCast_pow]; rfl
        rw [e]; exact i64_nat (by omega)
      have g2 : IntKind.i64.wrap (2 ^ J) = (q2 : Int) := by
        have e : ((2 : Int) ^ J) = (q2 : Int) := by rw [← hq2, Int.natCast_pow]; rfl
        rw [e]; exact i64_nat (by omega)
      have g3 : bits BinOp.or IntKind.i64 (p : Int) (q2 : Int) = ((p ||| q2 : Nat) : Int) := bits_or_i64_nat _ _ (by omega) (by omega)
      have h4 : p ||| q2 < 2 ^ 8 := Nat.or_lt_two_pow (by omega) (by omega)
      have g4 : bits BinOp.andNot IntKind.i64 (k : Int) ((p ||| q2 : Nat) : Int) = (R2 : Int) := by rw [bits_andNot_i64_nat _ _ (by omega) (by omega), r1]
      generalize p ||| q2 = oo at *
      have i0 : (0 : Int) ≤ (i : Int) := Int.natCast_nonneg _
      have i1 : (i : Int) ≤ 64 := by omega
      have R0 : (0 : Int) ≤ (R2 : Int) := Int.natCast_nonneg _
      have R1 : (R2 : Int) < (N : Int) := by omega
      have g5 : IntKind.i64.wrap (x2 + Kc) = x2 + Kc := IntWalk.i64_in _ (by omega)
      clear hp hq2 r1 r2 r4 hRe h4 p1 p2 z3 z4
      go_wp2_with fail
      go_at_call 38
      refine (hcj.out _ hB.out).mono ?_
      rintro e w5 ⟨rfl, hbn⟩
      replace hB := Lib.hid (hB.out.trans (hbn.mono hB.out.size))
      clear hbn
      have e1 := hcR.out _ hB.out
      go_upto_region 17 with fail
      go_quiet (fail)
      clear e1 g1 g2 g3 g4 hba hdp
      by_cases m2 : x2 = -1
      · have q6 : (x2 != -1) = false := by rw [bne_eq_false_iff_eq]; exact m2
        have hnew : Hid (∀ q, i < q → q < J + 1 → pairK l cc k q) := hstep.out (hkp.out.2 fun _ _ h => absurd m2 h)
        clear m1 m2 hx2b
        go_wp2_with fail
        go_roundw
        case rel => exact ⟨J + 1, by omega, by omega, by go_num, hnew, by first | exact hB | exact Lib.hid (below_drewN hB.out _)⟩
        case measure => simp [intOf]; omega
      have q6 : (x2 != -1) = true := by rw [bne_iff_ne]; exact m2
      by_cases m3 : x = -1
      · have q7 : (x == -1) = true := by rw [beq_iff_eq]; exact m3
        have hE : Hid (chkE l o v cc = 10) := hBadj.out J (by omega) hJn (fun h => (hkp.out.1 h bJ m1 m2).1 m3)
        clear m1 m2 m3 hx2b hxb
        go_wp2_with fail
        go_ret
        exact ⟨PC.ri hE.out.symm, by first | exact hB.out | exact below_drewN hB.out _⟩
      have q7 : (x == -1) = false := by rw [beq_eq_false_iff_ne]; exact m3
      by_cases m4 : x2 + Kc < x
      · have hE : Hid (chkE l o v cc = 10) := hBadj.out J (by omega) hJn (fun h => by have := (hkp.out.1 h bJ m1 m2).2; omega)
        clear m1 m2 m3 hx2b hxb
        go_wp2_with fail
        go_at_call 38
        refine (hcj.out _ (by first | exact hB.out | exact below_drewN hB.out _)).mono ?_
        rintro e w6 ⟨rfl, hbn⟩
        have hB6 : Hid (Below w.heap.size w w6) := by first | exact hB.out.trans (hbn.mono hB.out.size) | exact (below_drewN hB.out _).trans (hbn.mono hB.out.size)
        clear hbn
        go_wp2_with fail
        go_ret
        exact ⟨PC.ri hE.out.symm, hB6.out⟩
      · have hnew : Hid (∀ q, i < q → q < J + 1 → pairK l cc k q) := hstep.out (hkp.out.2 fun _ _ _ => ⟨m3, by omega⟩)
        clear m1 m2 m3 hx2b hxb
        go_wp2_with fail
        go_at_call 38
        refine (hcj.out _ (by first | exact hB.out | exact below_drewN hB.out _)).mono ?_
        rintro e w6 ⟨rfl, hbn⟩
        have hB6 : Hid (Below w.heap.size w w6) := by first | exact hB.out.trans (hbn.mono hB.out.size) | exact (below_drewN hB.out _).trans (hbn.mono hB.out.size)
        clear hbn
        go_wp2_with fail
        go_roundw
        case rel => exact ⟨J + 1, by omega, by omega, by go_num, hnew, hB6⟩
        case measure => simp [intOf]; omega
set_option maxRecDepth 100000 in
theorem pCheck (A O V C : Option Addr) (l : List Ent) (o : List Int) (v : List Bool) (cc : List Int) (c co cv cq : Nat) (w : World) (hF : FH w A l c) (hM : RM w O V o v) (hC : RecAt iEnc 1 w w.heap.size C cc) (hol : o.length ≤ 100000) (hvl : v.length ≤ 100000) (hcl : cc.length ≤ 100000) (hv : okF l) (h7 : l.length ≤ 7) (hT : TabOK w) : Calls Tryd.prog 26 #[.slice A l.length c, .agg #[.slice O o.length co, .slice V v.length cv], .slice C cc.length cq] w fun e w' => e = .returned (.int .i64 (chkE l o v cc)) ∧ Below w.heap.size w w' := by
  by_cases hval : valR l o v = -1
  · exact ck_no A O V C l o v cc c co cv cq w hF hM hC hol hvl hcl hv h7 hT hval
  by_cases hlen : cc.length = 2 ^ szE l
  rotate_left
  · exact ck_len A O V C l o v cc c co cv cq w hF hM hC hol hvl hcl hv h7 hT hval hlen
  by_cases hz : oE cc 0 = 0
  rotate_left
  · exact ck_zero A O V C l o v cc c co cv cq w hF hM hC hol hvl hcl hv h7 hT hval hlen hz
  by_cases hla : oE cc (2 ^ szE l - 1) = valR l o v
  · exact ck_main A O V C l o v cc c co cv cq w hF hM hC hol hvl hcl hv h7 hT hval hlen hz hla
  · exact ck_last A O V C l o v cc c co cv cq w hF hM hC hol hvl hcl hv h7 hT hval hlen hz hla
end Go.Proofs.YtjjjdoealagpcaaDoor
