/- Layer 43: the law of pairs. -/
import Derived.Test.YtjjjdoealagpcaaDoorHl
import Derived.Test.YtjjjdoealagpcaaDoorHm
namespace Go.Proofs.YtjjjdoealagpcaaDoor
open Go Go.RowKit
set_option linter.unusedSimpArgs false
set_option linter.unusedVariables false
attribute [local go_sem ↓] Go.wp_at_zero Go.wp_at_succ
theorem resO_len (l : List Ent) : (resO l).length = l.length := by
  show (foldO l.length (List.replicate l.length 0) (pairsL l)).length = _
  rw [foldO_len, List.length_replicate]
theorem resW_len (l : List Ent) : (resW l).length = l.length := by
  show (foldW l (List.replicate l.length false) (pairsL l)).length = _
  rw [foldW_len, List.length_replicate]
set_option maxRecDepth 100000 in
set_option maxHeartbeats 8000000 in
theorem pp_few (A : Option Addr) (l : List Ent) (c : Nat) (w : World) (hG : FI w A l c) (hT : TabOK w) (hf : ¬ fewP l) : Calls Tryd.prog 4 #[.slice A l.length c] w fun e w' => e = .returned (.bool true) ∧ Below w.heap.size w w' := by
  have hfe : Hid (∀ W, Below w.heap.size w W → Calls Tryd.prog 12 #[.slice A l.length c] W fun e w' => e = .returned (.bool (fewB l)) ∧ W = w') := fun W h => lfew A l c W (hG.next h)
  have hK : Hid (∀ W, Below w.heap.size w W → Calls Tryd.prog 9 #[] W fun e w' => e = .returned (.bool true) ∧ Below W.heap.size W w') := fun W h => known_43 W (hT.next h)
  rw [fewB_no hf] at hfe
  clear hG hT hf
  go_enter Tryd.func4, Tryd.ntmps4
  have hb : Hid (Below w.heap.size w w) := Below.refl _ _
  go_wp2_with fail
  go_at_call 12
  refine (hfe.out _ hb.out).mono ?_
  rintro e u ⟨rfl, rfl⟩
  go_wp2_with fail
  go_at_call 9
  refine (hK.out _ hb.out).mono ?_
  rintro e u ⟨rfl, hbn⟩
  replace hb := Lib.hid (hb.out.trans (hbn.mono hb.out.size))
  clear hbn
  go_wp2_with fail
  go_ret
  exact ⟨rfl, hb.out⟩
set_option maxRecDepth 100000 in
set_option maxHeartbeats 8000000 in
theorem pp_inv (A : Option Addr) (l : List Ent) (c : Nat) (w : World) (hG : FI w A l c) (hT : TabOK w) (hf : fewP l) (hv : ¬ okF l) : Calls Tryd.prog 4 #[.slice A l.length c] w fun e w' => e = .returned (.bool true) ∧ Below w.heap.size w w' := by
  have hfe : Hid (∀ W, Below w.heap.size w W → Calls Tryd.prog 12 #[.slice A l.length c] W fun e w' => e = .returned (.bool (fewB l)) ∧ W = w') := fun W h => lfew A l c W (hG.next h)
  have hK : Hid (∀ W, Below w.heap.size w W → Calls Tryd.prog 9 #[] W fun e w' => e = .returned (.bool true) ∧ Below W.heap.size W w') := fun W h => known_43 W (hT.next h)
  rw [fewB_yes hf] at hfe
  have hF := hG.few hf
  have h7 := hf.2
  have hVd : Hid (∀ W, Below w.heap.size w W → Calls Tryd.prog 11 #[.slice A l.length c] W fun e w' => e = .returned (.bool false) ∧ Below W.heap.size W w') := fun W h => fB_false hv ▸ (hF.next h).lvalid
  have hP : Hid (∀ W, Below w.heap.size w W → Calls Tryd.prog 13 #[.slice A l.length c] W fun e w' => e = .returned (.tuple #[.agg #[.slice none 0 0, .slice none 0 0], .int .i64 2]) ∧ Below W.heap.size W w') := fun W h => (hF.next h).pPair_no hv
  clear hG hT hf hF hv
  go_enter Tryd.func4, Tryd.ntmps4
  have hb : Hid (Below w.heap.size w w) := Below.refl _ _
  go_wp2_with fail
  go_at_call 12
  refine (hfe.out _ hb.out).mono ?_
  rintro e u ⟨rfl, rfl⟩
  go_wp2_with fail
  go_at_call 13
  refine (hP.out _ hb.out).mono ?_
  rintro e u ⟨rfl, hbn⟩
  replace hb := Lib.hid (hb.out.trans (hbn.mono hb.out.size))
  clear hbn
  have hbn : Below u.heap.size u (u.alloc (.cells #[.slice none 0 0, .slice none 0 0] 30)) := (Below.refl _ _).alloc (Nat.le_refl _) _
  have hX := Lib.hid (RB.new u (.slice none 0 0) (.slice none 0 0))
  replace hb := Lib.hid (hb.out.trans (hbn.mono hb.out.size))
  clear hbn
  go_upto_region 4 with fail
  generalize u.heap.size = BhX at hX ⊢
  generalize u.alloc (.cells #[.slice none 0 0, .slice none 0 0] 30) = u1 at *
  clear u
  obtain ⟨u, hu⟩ : ∃ u, u = u1 := ⟨_, rfl⟩
  subst hu
  have x0 := hX.out.c0
  have x1 := hX.out.c1
  go_wp2_with fail
  go_at_call 11
  refine (hVd.out _ hb.out).mono ?_
  rintro e u ⟨rfl, hbn⟩
  replace hX := Lib.hid (hX.out.next hbn)
  replace hb := Lib.hid (hb.out.trans (hbn.mono hb.out.size))
  clear hbn
  clear x0 x1
  have x0 := hX.out.c0
  have x1 := hX.out.c1
  go_wp2_with fail
  go_at_call 9
  refine (hK.out _ hb.out).mono ?_
  rintro e u ⟨rfl, hbn⟩
  replace hX := Lib.hid (hX.out.next hbn)
  replace hb := Lib.hid (hb.out.trans (hbn.mono hb.out.size))
  clear hbn
  clear x0 x1
  have x0 := hX.out.c0
  have x1 := hX.out.c1
  go_wp2_with fail
  go_ret
  exact ⟨rfl, hb.out⟩
set_option maxRecDepth 100000 in
set_option maxHeartbeats 8000000 in
theorem pp_no (A : Option Addr) (l : List Ent) (c : Nat) (w : World) (hG : FI w A l c) (hT : TabOK w) (hf : fewP l) (hv : okF l) (hn : bst l (fullS l) = -1) : Calls Tryd.prog 4 #[.slice A l.length c] w fun e w' => e = .returned (.bool true) ∧ Below w.heap.size w w' := by
  have hfe : Hid (∀ W, Below w.heap.size w W → Calls Tryd.prog 12 #[.slice A l.length c] W fun e w' => e = .returned (.bool (fewB l)) ∧ W = w') := fun W h => lfew A l c W (hG.next h)
  have hK : Hid (∀ W, Below w.heap.size w W → Calls Tryd.prog 9 #[] W fun e w' => e = .returned (.bool true) ∧ Below W.heap.size W w') := fun W h => known_43 W (hT.next h)
  rw [fewB_yes hf] at hfe
  have hF := hG.few hf
  have h7 := hf.2
  have hVd : Hid (∀ W, Below w.heap.size w W → Calls Tryd.prog 11 #[.slice A l.length c] W fun e w' => e = .returned (.bool true) ∧ Below W.heap.size W w') := fun W h => fB_true hv ▸ (hF.next h).lvalid
  have hP : Hid (∀ W, Below w.heap.size w W → Calls Tryd.prog 13 #[.slice A l.length c] W fun e w' => e = .returned (.tuple #[.agg #[.slice none 0 0, .slice none 0 0], .int .i64 9]) ∧ Below W.heap.size W w') := fun W h => ((hF.next h).pPair hv h7 (hT.next h)).mono fun e w' hq => ⟨hq.1 hn, hq.2.2⟩
  have hB : Hid (∀ W, Below w.heap.size w W → Calls Tryd.prog 14 #[.slice A l.length c] W fun e w' => e = .returned (.tuple #[.agg #[.slice none 0 0, .slice none 0 0], .int .i64 (-1)]) ∧ Below W.heap.size W w') := fun W h => (lBest A l c W (hF.next h) hv h7).mono fun e w' hq => ⟨hq.no hn, hq.below⟩
  clear hG hT hf hF hv hn
  go_enter Tryd.func4, Tryd.ntmps4
  have hb : Hid (Below w.heap.size w w) := Below.refl _ _
  go_wp2_with fail
  go_at_call 12
  refine (hfe.out _ hb.out).mono ?_
  rintro e u ⟨rfl, rfl⟩
  go_wp2_with fail
  go_at_call 13
  refine (hP.out _ hb.out).mono ?_
  rintro e u ⟨rfl, hbn⟩
  replace hb := Lib.hid (hb.out.trans (hbn.mono hb.out.size))
  clear hbn
  have hbn : Below u.heap.size u (u.alloc (.cells #[.slice none 0 0, .slice none 0 0] 30)) := (Below.refl _ _).alloc (Nat.le_refl _) _
  have hX := Lib.hid (RB.new u (.slice none 0 0) (.slice none 0 0))
  replace hb := Lib.hid (hb.out.trans (hbn.mono hb.out.size))
  clear hbn
  go_upto_region 4 with fail
  generalize u.heap.size = BhX at hX ⊢
  generalize u.alloc (.cells #[.slice none 0 0, .slice none 0 0] 30) = u1 at *
  clear u
  obtain ⟨u, hu⟩ : ∃ u, u = u1 := ⟨_, rfl⟩
  subst hu
  have x0 := hX.out.c0
  have x1 := hX.out.c1
  go_wp2_with fail
  go_at_call 11
  refine (hVd.out _ hb.out).mono ?_
  rintro e u ⟨rfl, hbn⟩
  replace hX := Lib.hid (hX.out.next hbn)
  replace hb := Lib.hid (hb.out.trans (hbn.mono hb.out.size))
  clear hbn
  clear x0 x1
  have x0 := hX.out.c0
  have x1 := hX.out.c1
  go_wp2_with fail
  go_at_call 14
  refine (hB.out _ hb.out).mono ?_
  rintro e u ⟨rfl, hbn⟩
  replace hX := Lib.hid (hX.out.next hbn)
  replace hb := Lib.hid (hb.out.trans (hbn.mono hb.out.size))
  clear hbn
  clear x0 x1
  have x0 := hX.out.c0
  have x1 := hX.out.c1
  have hbn : Below u.heap.size u (u.alloc (.cells #[.slice none 0 0, .slice none 0 0] 30)) := (Below.refl _ _).alloc (Nat.le_refl _) _
  have hY := Lib.hid (RB.new u (.slice none 0 0) (.slice none 0 0))
  replace hX := Lib.hid (hX.out.next hbn)
  replace hb := Lib.hid (hb.out.trans (hbn.mono hb.out.size))
  clear hbn
  clear x0 x1
  go_upto_region 7 with fail
  generalize u.heap.size = BhY at hY ⊢
  generalize u.alloc (.cells #[.slice none 0 0, .slice none 0 0] 30) = u1 at *
  clear u
  obtain ⟨u, hu⟩ : ∃ u, u = u1 := ⟨_, rfl⟩
  subst hu
  have x0 := hX.out.c0
  have x1 := hX.out.c1
  have y0 := hY.out.c0
  have y1 := hY.out.c1
  go_wp2_with fail
  go_at_call 9
  refine (hK.out _ hb.out).mono ?_
  rintro e u ⟨rfl, hbn⟩
  replace hX := Lib.hid (hX.out.next hbn)
  replace hY := Lib.hid (hY.out.next hbn)
  replace hb := Lib.hid (hb.out.trans (hbn.mono hb.out.size))
  clear hbn
  clear x0 x1
  have x0 := hX.out.c0
  have x1 := hX.out.c1
  clear y0 y1
  have y0 := hY.out.c0
  have y1 := hY.out.c1
  go_wp2_with fail
  go_ret
  exact ⟨rfl, hb.out⟩
set_option maxRecDepth 100000 in
set_option maxHeartbeats 8000000 in
theorem pp_ok (A : Option Addr) (l : List Ent) (c : Nat) (w : World) (hG : FI w A l c) (hT : TabOK w) (hf : fewP l) (hv : okF l) (hn : bst l (fullS l) ≠ -1) : Calls Tryd.prog 4 #[.slice A l.length c] w fun e w' => e = .returned (.bool true) ∧ Below w.heap.size w w' := by
  have hfe : Hid (∀ W, Below w.heap.size w W → Calls Tryd.prog 12 #[.slice A l.length c] W fun e w' => e = .returned (.bool (fewB l)) ∧ W = w') := fun W h => lfew A l c W (hG.next h)
  have hK : Hid (∀ W, Below w.heap.size w W → Calls Tryd.prog 9 #[] W fun e w' => e = .returned (.bool true) ∧ Below W.heap.size W w') := fun W h => known_43 W (hT.next h)
  rw [fewB_yes hf] at hfe
  have hF := hG.few hf
  have h7 := hf.2
  have hVd : Hid (∀ W, Below w.heap.size w W → Calls Tryd.prog 11 #[.slice A l.length c] W fun e w' => e = .returned (.bool true) ∧ Below W.heap.size W w') := fun W h => fB_true hv ▸ (hF.next h).lvalid
  have hP : Hid (∀ W, Below w.heap.size w W → Calls Tryd.prog 13 #[.slice A l.length c] W fun e w' => PairR l e w' ∧ Below W.heap.size W w') := fun W h => ((hF.next h).pPair hv h7 (hT.next h)).mono fun e w' hq => ⟨hq.2.1 hn, hq.2.2⟩
  obtain ⟨K, hK0, hKe⟩ : ∃ K : Int, 0 ≤ K ∧ bst l (fullS l) = K := ⟨_, by rcases best_is h7 hv.num with h | h; exact absurd h.1 hn; exact h.1, rfl⟩
  have hB : Hid (∀ W, Below w.heap.size w W → Calls Tryd.prog 14 #[.slice A l.length c] W fun e w' => (∃ bo co Bw : Nat, e = .returned (.tuple #[.agg #[.slice (some ⟨bo, 0, none⟩) l.length co, .slice (some ⟨Bw, 0, none⟩) l.length l.length], .int .i64 K]) ∧ TRow w' bo (resO l) ∧ BRow w' Bw 4 (resW l)) ∧ Below W.heap.size W w') := fun W h => hKe ▸ (lBest A l c W (hF.next h) hv h7).mono fun e w' hq => ⟨hq.yes hn, hq.below⟩
  have hl2 : 0 < l.length := by have := hv.1; omega
  have hOl := Lib.hid (resO_len l)
  have hWl := Lib.hid (resW_len l)
  clear hG hT hf hF hv hn hKe
  go_enter Tryd.func4, Tryd.ntmps4
  have hb : Hid (Below w.heap.size w w) := Below.refl _ _
  go_wp2_with fail
  go_at_call 12
  refine (hfe.out _ hb.out).mono ?_
  rintro e u ⟨rfl, rfl⟩
  go_wp2_with fail
  go_at_call 13
  refine (hP.out _ hb.out).mono ?_
  rintro e u ⟨hpr, hbn⟩
  obtain ⟨Bo, Bw, rfl, hO1, hW1⟩ := hpr.out
  clear hpr
  have hM1 : Hid (RM u (some ⟨Bo, 0, none⟩) (some ⟨Bw, 0, none⟩) (resO l) (resW l)) := ⟨hO1.recs, hW1.recs⟩
  clear hO1 hW1
  replace hb := Lib.hid (hb.out.trans (hbn.mono hb.out.size))
  clear hbn
  have hbn : Below u.heap.size u (u.alloc (.cells #[.slice (some ⟨Bo, 0, none⟩) l.length l.length, .slice (some ⟨Bw, 0, none⟩) l.length l.length] 30)) := (Below.refl _ _).alloc (Nat.le_refl _) _
  have hX := Lib.hid (RB.new u (.slice (some ⟨Bo, 0, none⟩) l.length l.length) (.slice (some ⟨Bw, 0, none⟩) l.length l.length))
  replace hM1 := Lib.hid (hM1.out.next hbn)
  replace hb := Lib.hid (hb.out.trans (hbn.mono hb.out.size))
  clear hbn
  go_upto_region 4 with fail
  generalize u.heap.size = BhX at hX ⊢
  generalize u.alloc (.cells #[.slice (some ⟨Bo, 0, none⟩) l.length l.length, .slice (some ⟨Bw, 0, none⟩) l.length l.length] 30) = u1 at *
  clear u
  obtain ⟨u, hu⟩ : ∃ u, u = u1 := ⟨_, rfl⟩
  subst hu
  have x0 := hX.out.c0
  have x1 := hX.out.c1
  go_wp2_with fail
  go_at_call 11
  refine (hVd.out _ hb.out).mono ?_
  rintro e u ⟨rfl, hbn⟩
  replace hX := Lib.hid (hX.out.next hbn)
  replace hM1 := Lib.hid (hM1.out.next hbn)
  replace hb := Lib.hid (hb.out.trans (hbn.mono hb.out.size))
  clear hbn
  clear x0 x1
  have x0 := hX.out.c0
  have x1 := hX.out.c1
  go_wp2_with fail
  go_at_call 14
  refine (hB.out _ hb.out).mono ?_
  rintro e u ⟨hpr, hbn⟩
  obtain ⟨bo, co, Bv, rfl, hO2, hW2⟩ := hpr
  have hM2 : Hid (RM u (some ⟨bo, 0, none⟩) (some ⟨Bv, 0, none⟩) (resO l) (resW l)) := ⟨hO2.recs, hW2.recs⟩
  clear hO2 hW2
  replace hX := Lib.hid (hX.out.next hbn)
  replace hM1 := Lib.hid (hM1.out.next hbn)
  replace hb := Lib.hid (hb.out.trans (hbn.mono hb.out.size))
  clear hbn
  clear x0 x1
  have x0 := hX.out.c0
  have x1 := hX.out.c1
  have hbn : Below u.heap.size u (u.alloc (.cells #[.slice (some ⟨bo, 0, none⟩) l.length co, .slice (some ⟨Bv, 0, none⟩) l.length l.length] 30)) := (Below.refl _ _).alloc (Nat.le_refl _) _
  have hY := Lib.hid (RB.new u (.slice (some ⟨bo, 0, none⟩) l.length co) (.slice (some ⟨Bv, 0, none⟩) l.length l.length))
  replace hX := Lib.hid (hX.out.next hbn)
  replace hM1 := Lib.hid (hM1.out.next hbn)
  replace hM2 := Lib.hid (hM2.out.next hbn)
  replace hb := Lib.hid (hb.out.trans (hbn.mono hb.out.size))
  clear hbn
  clear x0 x1
  go_upto_region 7 with fail
  generalize u.heap.size = BhY at hY ⊢
  generalize u.alloc (.cells #[.slice (some ⟨bo, 0, none⟩) l.length co, .slice (some ⟨Bv, 0, none⟩) l.length l.length] 30) = u1 at *
  clear u
  obtain ⟨u, hu⟩ : ∃ u, u = u1 := ⟨_, rfl⟩
  subst hu
  have x0 := hX.out.c0
  have x1 := hX.out.c1
  have y0 := hY.out.c0
  have y1 := hY.out.c1
  have hS : Hid (Calls Tryd.prog 15 #[.agg #[.slice (some ⟨Bo, 0, none⟩) l.length l.length, .slice (some ⟨Bw, 0, none⟩) l.length l.length], .agg #[.slice (some ⟨bo, 0, none⟩) l.length co, .slice (some ⟨Bv, 0, none⟩) l.length l.length]] u fun e w' => e = .returned (.bool true) ∧ Below u.heap.size u w') := lsame _ _ _ _ _ _ l.length _ _ _ _ u hM1.out hM2.out hOl.out hWl.out hl2 (by omega)
  go_wp2_with fail
  go_at_call 15
  refine hS.out.mono ?_
  rintro e u9 ⟨rfl, hbn⟩
  clear hS
  replace hX := Lib.hid (hX.out.next hbn)
  replace hY := Lib.hid (hY.out.next hbn)
  replace hb := Lib.hid (hb.out.trans (hbn.mono hb.out.size))
  clear hbn hM1 hM2 x0 x1 y0 y1
  have x0 := hX.out.c0
  have x1 := hX.out.c1
  have y0 := hY.out.c0
  have y1 := hY.out.c1
  go_wp2_with fail
  go_at_call 9
  refine (hK.out _ hb.out).mono ?_
  rintro e u ⟨rfl, hbn⟩
  replace hX := Lib.hid (hX.out.next hbn)
  replace hY := Lib.hid (hY.out.next hbn)
  replace hb := Lib.hid (hb.out.trans (hbn.mono hb.out.size))
  clear hbn
  clear x0 x1
  have x0 := hX.out.c0
  have x1 := hX.out.c1
  clear y0 y1
  have y0 := hY.out.c0
  have y1 := hY.out.c1
  go_wp2_with fail
  go_ret
  exact ⟨rfl, hb.out⟩
set_option maxRecDepth 100000 in
theorem law_ppairs (A : Option Addr) (l : List Ent) (c : Nat) (w : World) (hG : FI w A l c) (hT : TabOK w)  : Calls Tryd.prog 4 #[.slice A l.length c] w fun e w' => e = .returned (.bool true) ∧ Below w.heap.size w w' := by
  by_cases hf : fewP l
  rotate_left
  · exact pp_few A l c w hG hT hf
  by_cases hv : okF l
  rotate_left
  · exact pp_inv A l c w hG hT hf hv
  by_cases hn : bst l (fullS l) = -1
  · exact pp_no A l c w hG hT hf hv hn
  · exact pp_ok A l c w hG hT hf hv hn
end Go.Proofs.YtjjjdoealagpcaaDoor
