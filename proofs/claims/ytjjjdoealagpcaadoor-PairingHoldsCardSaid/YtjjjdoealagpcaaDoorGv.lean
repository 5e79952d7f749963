/- Layer 43: the statements' example and known. -/
import Derived.Test.YtjjjdoealagpcaaDoorGu
namespace Go.Proofs.YtjjjdoealagpcaaDoor
open Go Go.RowKit
set_option linter.unusedSimpArgs false
set_option linter.unusedVariables false
attribute [local go_sem ↓] Go.wp_at_zero Go.wp_at_succ
abbrev exM (n : Int) : Obj := .cells #[.int .i64 n] 3
def exCells (B : Nat) : List Value := (exE B).flatMap eEnc
/-- the world behind the example -/
def exW (w : World) : World := ((((w.alloc (exM 3)).alloc (exM 2)).alloc (exM 1)).alloc (exM 0)).alloc (.cells (exCells w.heap.size).toArray 25)
theorem exW_size (w : World) : (exW w).heap.size = w.heap.size + 5 := by simp [exW]
theorem exW_below (w : World) : Below w.heap.size w (exW w) := ((((((Below.refl _ _).alloc (Nat.le_refl _) _).alloc (by simp) _).alloc (by simp; omega) _).alloc (by simp; omega) _).alloc (by simp; omega) _)
theorem exW_row (w : World) : (exW w).heap[w.heap.size + 4]? = some (.cells (exCells w.heap.size).toArray 25) := by
  have h := heap_alloc_new ((((w.alloc (exM 3)).alloc (exM 2)).alloc (exM 1)).alloc (exM 0)) (.cells (exCells w.heap.size).toArray 25)
  have e : ((((w.alloc (exM 3)).alloc (exM 2)).alloc (exM 1)).alloc (exM 0)).heap.size = w.heap.size + 4 := by simp
  rw [e] at h
  exact h
theorem exW_met (w : World) : (exW w).heap[w.heap.size]? = some (exM 3) ∧ (exW w).heap[w.heap.size + 1]? = some (exM 2) ∧ (exW w).heap[w.heap.size + 2]? = some (exM 1) ∧ (exW w).heap[w.heap.size + 3]? = some (exM 0) := by
  have e1 : (w.alloc (exM 3)).heap.size = w.heap.size + 1 := by simp
  have e2 : ((w.alloc (exM 3)).alloc (exM 2)).heap.size = w.heap.size + 2 := by simp
  have e3 : (((w.alloc (exM 3)).alloc (exM 2)).alloc (exM 1)).heap.size = w.heap.size + 3 := by simp
  have e4 : ((((w.alloc (exM 3)).alloc (exM 2)).alloc (exM 1)).alloc (exM 0)).heap.size = w.heap.size + 4 := by simp
  have n1 := heap_alloc_new w (exM 3)
  have n2 := heap_alloc_new (w.alloc (exM 3)) (exM 2)
  have n3 := heap_alloc_new ((w.alloc (exM 3)).alloc (exM 2)) (exM 1)
  have n4 := heap_alloc_new (((w.alloc (exM 3)).alloc (exM 2)).alloc (exM 1)) (exM 0)
  rw [e1] at n2
  rw [e2] at n3
  rw [e3] at n4
  unfold exW
  refine ⟨?_, ?_, ?_, ?_⟩
  · rw [heap_alloc_old _ _ (by omega), heap_alloc_old _ _ (by omega), heap_alloc_old _ _ (by omega), heap_alloc_old _ _ (by omega)]; exact n1
  · rw [heap_alloc_old _ _ (by omega), heap_alloc_old _ _ (by omega), heap_alloc_old _ _ (by omega)]; exact n2
  · rw [heap_alloc_old _ _ (by omega), heap_alloc_old _ _ (by omega)]; exact n3
  · rw [heap_alloc_old _ _ (by omega)]; exact n4
theorem one_rec {w : World} {B : Nat} {n : Int} (h : w.heap[B]? = some (exM n)) : RecAt iEnc 1 w w.heap.size (some ⟨B, 0, none⟩) [n] := by
  have hr : IRow w B 3 [n] := ⟨h⟩
  exact hr.recs
theorem ex_fld (w : World) : FH (exW w) (some ⟨w.heap.size + 4, 0, none⟩) (exE w.heap.size) 4 := by
  obtain ⟨m0, m1, m2, m3⟩ := exW_met w
  refine ⟨⟨?_, ?_⟩, Nat.le_refl _, by show 4 ≤ 100000; omega, ?_, ?_⟩
  · intro _
    refine ⟨w.heap.size + 4, 0, rfl, by rw [exW_size]; omega, fun k x hx j u hu => ?_⟩
    have hk : k < 4 := (List.getElem?_eq_some_iff.1 hx).1
    rw [cell_of_row _ _ _ _ _ _ (exW_row w)]
    have hj : j < 8 := by have := (List.getElem?_eq_some_iff.1 hu).1; rwa [eEnc_len] at this
    obtain rfl | rfl | rfl | rfl : k = 0 ∨ k = 1 ∨ k = 2 ∨ k = 3 := by omega
    all_goals
      obtain rfl := Option.some.inj hx
      obtain rfl | rfl | rfl | rfl | rfl | rfl | rfl | rfl : j = 0 ∨ j = 1 ∨ j = 2 ∨ j = 3 ∨ j = 4 ∨ j = 5 ∨ j = 6 ∨ j = 7 := by omega
      all_goals
        obtain rfl := Option.some.inj hu
        rfl
  · intro x hx
    simp only [exE, List.mem_cons, List.not_mem_nil, or_false] at hx
    rcases hx with rfl | rfl | rfl | rfl
    · exact one_rec m0
    · exact one_rec m1
    · exact one_rec m2
    · exact one_rec m3
  · intro x hx
    simp only [exE, List.mem_cons, List.not_mem_nil, or_false] at hx
    rcases hx with rfl | rfl | rfl | rfl <;> (show 1 ≤ maxLen; unfold maxLen; omega)
  · intro x hx
    simp only [exE, List.mem_cons, List.not_mem_nil, or_false] at hx
    rcases hx with rfl | rfl | rfl | rfl <;> (show 1 ≤ 100000; omega)
set_option maxRecDepth 100000 in
set_option maxHeartbeats 4000000 in
theorem lexample (w : World) : Calls Tryd.prog 29 #[] w fun e w' => e = .returned (.slice (some ⟨w.heap.size + 4, 0, none⟩) 4 4) ∧ exW w = w' := by
  go_enter Tryd.func29, Tryd.ntmps29
  go_wp2_with fail
  go_ret
  exact ⟨rfl, rfl⟩
set_option maxRecDepth 100000 in
set_option maxHeartbeats 4000000 in
theorem known_43 (w : World) (hT : TabOK w) : Calls Tryd.prog 9 #[] w fun e w' => e = .returned (.bool true) ∧ Below w.heap.size w w' := by
  have hFH := Lib.hid (ex_fld w)
  have hbe := Lib.hid (exW_below w)
  have hC0 : Hid (∀ W, Below (exW w).heap.size (exW w) W → Calls Tryd.prog 16 #[.slice (some ⟨w.heap.size + 4, 0, none⟩) 4 4, .int .i64 0, .int .i64 1] W fun e w' => e = .returned (.tuple #[.int .i64 0, .int .i64 0]) ∧ Below W.heap.size W w') := fun W h => by
    have hh := pCost_ok _ (exE w.heap.size) 4 0 1 0 1 W (hFH.out.next h) (ex_ok _) (by decide) (by show 1 < 4; decide) rfl rfl (by rw [ex_01]; decide)
    rw [ex_01] at hh
    exact hh
  have hC1 : Hid (∀ W, Below (exW w).heap.size (exW w) W → Calls Tryd.prog 16 #[.slice (some ⟨w.heap.size + 4, 0, none⟩) 4 4, .int .i64 0, .int .i64 2] W fun e w' => e = .returned (.tuple #[.int .i64 403, .int .i64 0]) ∧ Below W.heap.size W w') := fun W h => by
    have hh := pCost_ok _ (exE w.heap.size) 4 0 2 0 2 W (hFH.out.next h) (ex_ok _) (by decide) (by show 2 < 4; decide) rfl rfl (by rw [ex_02]; decide)
    rw [ex_02] at hh
    exact hh
  have hC2 : Hid (∀ W, Below (exW w).heap.size (exW w) W → Calls Tryd.prog 16 #[.slice (some ⟨w.heap.size + 4, 0, none⟩) 4 4, .int .i64 0, .int .i64 3] W fun e w' => e = .returned (.tuple #[.int .i64 0, .int .i64 9]) ∧ Below W.heap.size W w') := fun W h => by
    exact pCost_met _ (exE w.heap.size) 4 0 3 0 3 W (hFH.out.next h) (ex_ok _) (by decide) (by show 3 < 4; decide) rfl rfl (ex_03 _)
  have hC3 : Hid (∀ W, Below (exW w).heap.size (exW w) W → Calls Tryd.prog 16 #[.slice (some ⟨w.heap.size + 4, 0, none⟩) 4 4, .int .i64 2, .int .i64 3] W fun e w' => e = .returned (.tuple #[.int .i64 0, .int .i64 0]) ∧ Below W.heap.size W w') := fun W h => by
    have hh := pCost_ok _ (exE w.heap.size) 4 2 3 2 3 W (hFH.out.next h) (ex_ok _) (by decide) (by show 3 < 4; decide) rfl rfl (by rw [ex_23]; decide)
    rw [ex_23] at hh
    exact hh
  have hC4 : Hid (∀ W, Below (exW w).heap.size (exW w) W → Calls Tryd.prog 17 #[.slice (some ⟨w.heap.size + 4, 0, none⟩) 4 4, .int .i64 0, .int .i64 1] W fun e w' => e = .returned (.tuple #[.int .i64 1, .int .i64 0]) ∧ Below W.heap.size W w') := fun W h => by
    have hh := pColors_ok _ (exE w.heap.size) 4 0 1 0 1 _ _ W (hFH.out.next h) (ex_ok _) rfl rfl (by decide) rfl rfl (by rw [ex_01]; decide)
    exact hh
  have hC5 : Hid (∀ W, Below (exW w).heap.size (exW w) W → Calls Tryd.prog 17 #[.slice (some ⟨w.heap.size + 4, 0, none⟩) 4 4, .int .i64 1, .int .i64 3] W fun e w' => e = .returned (.tuple #[.int .i64 1, .int .i64 0]) ∧ Below W.heap.size W w') := fun W h => by
    have hh := pColors_ok _ (exE w.heap.size) 4 1 3 1 3 _ _ W (hFH.out.next h) (ex_ok _) rfl rfl (by decide) rfl rfl (by rw [ex_13]; decide)
    exact hh
  have hCP : Hid (∀ W, Below (exW w).heap.size (exW w) W → Calls Tryd.prog 13 #[.slice (some ⟨w.heap.size + 4, 0, none⟩) 4 4] W fun e w' => PairP (exE w.heap.size) e W w') := fun W h => (hFH.out.next h).pPair (ex_ok _) (by show 4 ≤ 7; decide) ((hT.next hbe.out).next h)
  have x0 : bits BinOp.xor IntKind.i64 0 1 = 1 := by kernel_rfl
  have x1 : bits BinOp.xor IntKind.i64 1 1 = 0 := by kernel_rfl
  have x2 : bits BinOp.xor IntKind.i64 2 1 = 3 := by kernel_rfl
  have x3 : bits BinOp.xor IntKind.i64 3 1 = 2 := by kernel_rfl
  clear hT hFH
  go_enter Tryd.func9, Tryd.ntmps9
  go_wp2_with fail
  go_at_call 29
  refine (lexample w).mono ?_
  rintro e w0 ⟨rfl, rfl⟩
  have hb : Hid (Below (exW w).heap.size (exW w) (exW w)) := Below.refl _ _
  generalize exW w = w1 at *
  go_wp2_with fail
  go_at_call 16
  refine (hC0.out w1 hb.out).mono ?_
  rintro e v0 ⟨rfl, hbn⟩
  replace hb := Lib.hid (hb.out.trans (hbn.mono hb.out.size))
  clear hbn hC0
  go_wp2_with fail
  go_at_call 16
  refine (hC1.out v0 hb.out).mono ?_
  rintro e v1 ⟨rfl, hbn⟩
  replace hb := Lib.hid (hb.out.trans (hbn.mono hb.out.size))
  clear hbn hC1
  go_wp2_with fail
  go_at_call 16
  refine (hC2.out v1 hb.out).mono ?_
  rintro e v2 ⟨rfl, hbn⟩
  replace hb := Lib.hid (hb.out.trans (hbn.mono hb.out.size))
  clear hbn hC2
  go_wp2_with fail
  go_at_call 16
  refine (hC3.out v2 hb.out).mono ?_
  rintro e v3 ⟨rfl, hbn⟩
  replace hb := Lib.hid (hb.out.trans (hbn.mono hb.out.size))
  clear hbn hC3
  go_wp2_with fail
  go_at_call 17
  refine (hC4.out v3 hb.out).mono ?_
  rintro e v4 ⟨rfl, hbn⟩
  replace hb := Lib.hid (hb.out.trans (hbn.mono hb.out.size))
  clear hbn hC4
  go_wp2_with fail
  go_at_call 17
  refine (hC5.out v4 hb.out).mono ?_
  rintro e v5 ⟨rfl, hbn⟩
  replace hb := Lib.hid (hb.out.trans (hbn.mono hb.out.size))
  clear hbn hC5
  go_wp2_with fail
  go_at_call 13
  refine (hCP.out v5 hb.out).mono ?_
  rintro e v6 hP
  obtain ⟨Bo, Bw, he, hO, hW⟩ := (hP.2.1 (by rw [ex_best]; decide)).out
  rw [show (exE w.heap.size).length = 4 from rfl] at he
  subst he
  have hbp := hP.2.2
  replace hb := Lib.hid (hbe.out.trans ((hb.out.trans (hbp.mono hb.out.size)).mono hbe.out.size))
  rw [ex_resO] at hO
  rw [ex_resW] at hW
  have hO2 := hO.next ((Below.refl _ _).alloc (Nat.le_refl _) (.cells #[.slice (some ⟨Bo, 0, none⟩) 4 4, .slice (some ⟨Bw, 0, none⟩) 4 4] 30))
  have hW2 := hW.next ((Below.refl _ _).alloc (Nat.le_refl _) (.cells #[.slice (some ⟨Bo, 0, none⟩) 4 4, .slice (some ⟨Bw, 0, none⟩) 4 4] 30))
  have hr0 : (v6.alloc (.cells #[.slice (some ⟨Bo, 0, none⟩) 4 4, .slice (some ⟨Bw, 0, none⟩) 4 4] 30)).cell? ⟨v6.heap.size, 0, none⟩ = some (.slice (some ⟨Bo, 0, none⟩) 4 4) := by rw [cell_of_row _ _ _ _ _ _ (heap_alloc_new v6 _)]; rfl
  have hr1 : (v6.alloc (.cells #[.slice (some ⟨Bo, 0, none⟩) 4 4, .slice (some ⟨Bw, 0, none⟩) 4 4] 30)).cell? ⟨v6.heap.size, 1, none⟩ = some (.slice (some ⟨Bw, 0, none⟩) 4 4) := by rw [cell_of_row _ _ _ _ _ _ (heap_alloc_new v6 _)]; rfl
  have hb7 : Hid (Below w.heap.size w (v6.alloc (.cells #[.slice (some ⟨Bo, 0, none⟩) 4 4, .slice (some ⟨Bw, 0, none⟩) 4 4] 30))) := hb.out.alloc hb.out.size _
  have o0 := hO2.cell (k := 0) (x := 1) rfl
  have o1 := hO2.cell (k := 1) (x := 0) rfl
  have o2 := hO2.cell (k := 2) (x := 3) rfl
  have o3 := hO2.cell (k := 3) (x := 2) rfl
  have p0 := hW2.cell (k := 0) (x := false) rfl
  have p1 := hW2.cell (k := 1) (x := true) rfl
  have p2 := hW2.cell (k := 2) (x := false) rfl
  have p3 := hW2.cell (k := 3) (x := true) rfl
  clear hP hO hW hO2 hW2 hbp hb hCP
  go_upto_region 9 with fail
  generalize v6.alloc (.cells #[.slice (some ⟨Bo, 0, none⟩) 4 4, .slice (some ⟨Bw, 0, none⟩) 4 4] 30) = w8 at *
  generalize v6.heap.size = Bp at *
  go_wp2_with fail
  go_loop [16] (fun i => ∃ k : Nat, k ≤ 4 ∧ i = .int .i64 (k : Int)) (fun i => 4 - (intOf i).toNat)
  case atStart => exact ⟨0, by omega, rfl⟩
  case round =>
    obtain ⟨k, hk, rfl⟩ := hrel
    obtain rfl | rfl | rfl | rfl | rfl : k = 0 ∨ k = 1 ∨ k = 2 ∨ k = 3 ∨ k = 4 := by omega
    · go_wp2_with fail
      go_round
      case rel => exact ⟨1, by omega, rfl⟩
      case measure => simp [intOf]
    · go_wp2_with fail
      go_round
      case rel => exact ⟨2, by omega, rfl⟩
      case measure => simp [intOf]
    · go_wp2_with fail
      go_round
      case rel => exact ⟨3, by omega, rfl⟩
      case measure => simp [intOf]
    · go_wp2_with fail
      go_round
      case rel => exact ⟨4, by omega, rfl⟩
      case measure => simp [intOf]
    · go_wp2_with fail
      go_ret
      exact ⟨rfl, hb7.out⟩
end Go.Proofs.YtjjjdoealagpcaaDoor
