/- Layer 43: the statements' pair and bye; the program's Bye. -/
import Derived.Test.YtjjjdoealagpcaaDoorGl
namespace Go.Proofs.YtjjjdoealagpcaaDoor
open Go Go.RowKit
set_option linter.unusedSimpArgs false
set_option linter.unusedVariables false
attribute [local go_sem ↓] Go.wp_at_zero Go.wp_at_succ
set_option maxRecDepth 100000 in
set_option maxHeartbeats 4000000 in
theorem lpair_met (A : Option Addr) (l : List Ent) (c a b : Nat) (x : Ent) (w : World) (hF : FH w A l c) (hx : l[a]? = some x) (hm : memI x.met b = true) :
    Calls Tryd.prog 20 #[.slice A l.length c, .int .i64 (a : Int), .int .i64 (b : Int)] w fun e w' => e = .returned (.tuple #[.int .i64 0, .int .i64 (-1)]) ∧ Below w.heap.size w w' := by
  have hal : a < l.length := (List.getElem?_eq_some_iff.1 hx).1
  have haI : (a : Int) < (l.length : Int) := by omega
  have ha0 : (0 : Int) ≤ (a : Int) := Int.natCast_nonneg _
  have hxm := List.mem_of_getElem? hx
  obtain ⟨bk, off, hAt, hbk, hE⟩ := ent8 hF.fld.row (by omega)
  subst hAt
  have e7 := (hE a x hx).e7
  have hC : Hid (Calls Tryd.prog 28 #[.slice x.mA x.met.length x.mc, .int .i64 (b : Int)] w fun e w' => e = .returned (.bool true) ∧ w = w') := by
    have h := lhas x.mA x.mc x.met b w (hF.fld.met x hxm) (hF.ml x hxm)
    rw [hm] at h; exact h
  clear hE hx hF hm hxm
  go_enter Tryd.func20, Tryd.ntmps20
  go_wp2_with fail
  go_at_call 28
  refine hC.out.mono ?_
  rintro e w' ⟨rfl, rfl⟩
  go_wp2_with fail
  go_ret2
  exact ⟨rfl, Below.refl _ _⟩
set_option maxRecDepth 100000 in
set_option maxHeartbeats 4000000 in
theorem lpair_two (A : Option Addr) (l : List Ent) (c a b : Nat) (x y : Ent) (w : World) (hF : FH w A l c) (hx : l[a]? = some x) (hy : l[b]? = some y) (nx : numOk x) (ny : numOk y) (hm : memI x.met b = false) :
    Calls Tryd.prog 20 #[.slice A l.length c, .int .i64 (a : Int), .int .i64 (b : Int)] w fun e w' => e = .returned (.tuple #[.int .i64 (whiteI x y a b), .int .i64 (pairC x y b)]) ∧ Below w.heap.size w w' := by
  have hal : a < l.length := (List.getElem?_eq_some_iff.1 hx).1
  have hbl : b < l.length := (List.getElem?_eq_some_iff.1 hy).1
  have haI : (a : Int) < (l.length : Int) := by omega
  have hbI : (b : Int) < (l.length : Int) := by omega
  have ha0 : (0 : Int) ≤ (a : Int) := Int.natCast_nonneg _
  have hb0 : (0 : Int) ≤ (b : Int) := Int.natCast_nonneg _
  have hl := hF.len
  have hxm := List.mem_of_getElem? hx
  obtain ⟨bk, off, hAt, hbk, hE⟩ := ent8 hF.fld.row (by omega)
  subst hAt
  have e7 := (hE a x hx).e7
  have hH : Hid (Calls Tryd.prog 28 #[.slice x.mA x.met.length x.mc, .int .i64 (b : Int)] w fun e w' => e = .returned (.bool false) ∧ w = w') := by
    have h := lhas x.mA x.mc x.met b w (hF.fld.met x hxm) (hF.ml x hxm)
    rw [hm] at h; exact h
  have hEx := Lib.hid (hE a x hx)
  have hEy := Lib.hid (hE b y hy)
  have hP1 : Hid (∀ W, Calls Tryd.prog 39 #[eV x, .bool true] W fun e w' => e = .returned (.int .i64 (colV x true)) ∧ Below W.heap.size W w') := fun W => lcolor x true W
  have hP2 : Hid (∀ W, Calls Tryd.prog 39 #[eV y, .bool false] W fun e w' => e = .returned (.int .i64 (colV y false)) ∧ Below W.heap.size W w') := fun W => lcolor y false W
  have hP3 : Hid (∀ W, Calls Tryd.prog 39 #[eV y, .bool true] W fun e w' => e = .returned (.int .i64 (colV y true)) ∧ Below W.heap.size W w') := fun W => lcolor y true W
  have hP4 : Hid (∀ W, Calls Tryd.prog 39 #[eV x, .bool false] W fun e w' => e = .returned (.int .i64 (colV x false)) ∧ Below W.heap.size W w') := fun W => lcolor x false W
  have q1 := colV_bd x true
  have q2 := colV_bd y false
  have q3 := colV_bd y true
  have q4 := colV_bd x false
  have hXe : Hid (colV x true + colV y false = aheadC x y) := rfl
  have hYe : Hid (colV y true + colV x false = aheadC y x) := rfl
  have hC : Hid (∀ W, Below w.heap.size w W → W.cell? ⟨bk, off + a * 8, none⟩ = some (.string x.name) ∧ W.cell? ⟨bk, off + a * 8 + 1, none⟩ = some (.int .i64 x.rating) ∧ W.cell? ⟨bk, off + a * 8 + 2, none⟩ = some (.int .i64 x.score) ∧ W.cell? ⟨bk, off + a * 8 + 3, none⟩ = some (.int .i64 x.whites) ∧ W.cell? ⟨bk, off + a * 8 + 4, none⟩ = some (.int .i64 x.blacks) ∧ W.cell? ⟨bk, off + a * 8 + 5, none⟩ = some (.int .i64 x.last) ∧ W.cell? ⟨bk, off + a * 8 + 6, none⟩ = some (.bool x.bye) ∧ W.cell? ⟨bk, off + a * 8 + 7, none⟩ = some (.slice x.mA x.met.length x.mc) ∧ W.cell? ⟨bk, off + b * 8, none⟩ = some (.string y.name) ∧ W.cell? ⟨bk, off + b * 8 + 1, none⟩ = some (.int .i64 y.rating) ∧ W.cell? ⟨bk, off + b * 8 + 2, none⟩ = some (.int .i64 y.score) ∧ W.cell? ⟨bk, off + b * 8 + 3, none⟩ = some (.int .i64 y.whites) ∧ W.cell? ⟨bk, off + b * 8 + 4, none⟩ = some (.int .i64 y.blacks) ∧ W.cell? ⟨bk, off + b * 8 + 5, none⟩ = some (.int .i64 y.last) ∧ W.cell? ⟨bk, off + b * 8 + 6, none⟩ = some (.bool y.bye) ∧ W.cell? ⟨bk, off + b * 8 + 7, none⟩ = some (.slice y.mA y.met.length y.mc)) := fun W h => by
    have h1 := hEx.out.next hbk h
    have h2 := hEy.out.next hbk h
    exact ⟨h1.e0, h1.e1, h1.e2, h1.e3, h1.e4, h1.e5, h1.e6, h1.e7, h2.e0, h2.e1, h2.e2, h2.e3, h2.e4, h2.e5, h2.e6, h2.e7⟩
  obtain ⟨x0, x1⟩ := nx.2
  obtain ⟨y0, y1⟩ := ny.2
  obtain ⟨D, hD⟩ : ∃ D, x.score - y.score = D := ⟨_, rfl⟩
  have hq := sq_bd (d := D) (by omega) (by omega)
  have d1 : IntKind.i64.wrap (x.score - y.score) = D := by rw [hD]; exact IntWalk.i64_in _ (by omega)
  have d2 : IntKind.i64.wrap (100 * D) = 100 * D := IntWalk.i64_in _ (by omega)
  have d3 : IntKind.i64.wrap (100 * D * D) = 100 * D * D := IntWalk.i64_in _ (by omega)
  have hPC : Hid (pairC x y b = 100 * D * D + colC x y) := by show pairC x y b = _; unfold pairC; rw [hm, hD]; rfl
  generalize colV x true = p1 at *
  generalize colV y false = p2 at *
  generalize colV y true = p3 at *
  generalize colV x false = p4 at *
  have hbX := aheadC_bd x y
  have hbY := aheadC_bd y x
  generalize hX : aheadC x y = X at *
  generalize hY : aheadC y x = Y at *
  have g1 : IntKind.i64.wrap (p1 + p2) = X := by rw [← hXe.out]; exact IntWalk.i64_in _ (by omega)
  have g2 : IntKind.i64.wrap (p3 + p4) = Y := by rw [← hYe.out]; exact IntWalk.i64_in _ (by omega)
  replace hX := Lib.hid hX
  replace hY := Lib.hid hY
  have hwin : winsW x y ↔ (X < Y ∨ X = Y ∧ y.rating ≤ x.rating) := by unfold winsW; rw [hX.out, hY.out]
  have hmin : Hid (colC x y = min X Y) := by
    show colC x y = min X Y
    unfold colC
    rw [hX.out, hY.out]
    split
    · rename_i h; rw [hwin] at h; omega
    · rename_i h; rw [hwin] at h; omega
  have d4 : IntKind.i64.wrap (100 * D * D + min X Y) = 100 * D * D + min X Y := IntWalk.i64_in _ (by omega)
  have hPC2 : Hid (pairC x y b = 100 * D * D + min X Y) := by show pairC x y b = _; rw [hPC.out, hmin.out]
  replace hwin := Lib.hid hwin
  clear hE hx hy nx ny hF hXe hYe q1 q2 q3 q4 hm hxm hD hq hPC hmin hbX hbY
  go_enter Tryd.func20, Tryd.ntmps20
  go_wp2_with fail
  go_at_call 28
  refine hH.out.mono ?_
  rintro e w' ⟨rfl, rfl⟩
  clear e7 hH
  go_wp2_with fail
  refine wp_region_held_drew (S := fun W => W.cell? ⟨bk, off + a * 8, none⟩ = some (.string x.name) ∧ W.cell? ⟨bk, off + a * 8 + 1, none⟩ = some (.int .i64 x.rating) ∧ W.cell? ⟨bk, off + a * 8 + 2, none⟩ = some (.int .i64 x.score) ∧ W.cell? ⟨bk, off + a * 8 + 3, none⟩ = some (.int .i64 x.whites) ∧ W.cell? ⟨bk, off + a * 8 + 4, none⟩ = some (.int .i64 x.blacks) ∧ W.cell? ⟨bk, off + a * 8 + 5, none⟩ = some (.int .i64 x.last) ∧ W.cell? ⟨bk, off + a * 8 + 6, none⟩ = some (.bool x.bye) ∧ W.cell? ⟨bk, off + a * 8 + 7, none⟩ = some (.slice x.mA x.met.length x.mc) ∧ W.cell? ⟨bk, off + b * 8, none⟩ = some (.string y.name) ∧ W.cell? ⟨bk, off + b * 8 + 1, none⟩ = some (.int .i64 y.rating) ∧ W.cell? ⟨bk, off + b * 8 + 2, none⟩ = some (.int .i64 y.score) ∧ W.cell? ⟨bk, off + b * 8 + 3, none⟩ = some (.int .i64 y.whites) ∧ W.cell? ⟨bk, off + b * 8 + 4, none⟩ = some (.int .i64 y.blacks) ∧ W.cell? ⟨bk, off + b * 8 + 5, none⟩ = some (.int .i64 y.last) ∧ W.cell? ⟨bk, off + b * 8 + 6, none⟩ = some (.bool y.bye) ∧ W.cell? ⟨bk, off + b * 8 + 7, none⟩ = some (.slice y.mA y.met.length y.mc)) (by kernel_rfl) (hC.out _ ((Below.refl _ _).drew)) (fun hHeld => ?_)
  refine wpAnyH_take (i := 0) (v := ?_) rfl (by kernel_rfl) (by kernel_rfl) (by kernel_rfl) (fun _ _ _ h => h) (Or.inl ⟨by rfl, ?_⟩) hHeld ?_
  rotate_left
  · intro W9 hSw; (try dsimp only at hSw); go_simp; (try with_reducible rfl)
  simp only [Act.put, List.getElem_toArray, List.getElem_cons_zero, List.getElem_cons_succ, List.setIfInBounds_toArray, List.set_cons_zero, List.set_cons_succ]
  refine wpAnyH_take (i := 1) (v := ?_) rfl (by kernel_rfl) (by kernel_rfl) (by kernel_rfl) (fun _ _ _ h => h) (Or.inl ⟨by rfl, ?_⟩) hHeld ?_
  rotate_left
  · intro W9 hSw; (try dsimp only at hSw); go_simp; (try with_reducible rfl)
  simp only [Act.put, List.getElem_toArray, List.getElem_cons_zero, List.getElem_cons_succ, List.setIfInBounds_toArray, List.set_cons_zero, List.set_cons_succ]
  refine wpAnyH_take (i := 2) (v := ?_) rfl (by kernel_rfl) (by kernel_rfl) (by kernel_rfl) (fun _ _ _ h => h) (Or.inl ⟨by rfl, ?_⟩) hHeld ?_
  rotate_left
  · intro W9 hSw; (try dsimp only at hSw); go_simp; (try with_reducible rfl)
  simp only [Act.put, List.getElem_toArray, List.getElem_cons_zero, List.getElem_cons_succ, List.setIfInBounds_toArray, List.set_cons_zero, List.set_cons_succ]
  refine wpAnyH_take (i := 3) (v := ?_) rfl (by kernel_rfl) (by kernel_rfl) (by kernel_rfl) (fun _ _ _ h => h) (Or.inl ⟨by rfl, ?_⟩) hHeld ?_
  rotate_left
  · intro W9 hSw; (try dsimp only at hSw); go_simp; (try with_reducible rfl)
  simp only [Act.put, List.getElem_toArray, List.getElem_cons_zero, List.getElem_cons_succ, List.setIfInBounds_toArray, List.set_cons_zero, List.set_cons_succ]
  refine wpAnyH_take (i := 5) (v := ?_) rfl (by kernel_rfl) (by kernel_rfl) (by kernel_rfl) (fun _ _ _ h => h) (Or.inl ⟨by rfl, ?_⟩) hHeld ?_
  rotate_left
  · intro W9 hSw; (try dsimp only at hSw); go_simp; (try with_reducible rfl)
  simp only [Act.put, List.getElem_toArray, List.getElem_cons_zero, List.getElem_cons_succ, List.setIfInBounds_toArray, List.set_cons_zero, List.set_cons_succ]
  refine wpAnyH_take (i := 6) (v := ?_) rfl (by kernel_rfl) (by kernel_rfl) (by kernel_rfl) (fun _ _ _ h => h) (Or.inl ⟨by rfl, ?_⟩) hHeld ?_
  rotate_left
  · intro W9 hSw; (try dsimp only at hSw); go_simp; (try with_reducible rfl)
  simp only [Act.put, List.getElem_toArray, List.getElem_cons_zero, List.getElem_cons_succ, List.setIfInBounds_toArray, List.set_cons_zero, List.set_cons_succ]
  refine wpAnyH_take (i := 7) (v := ?_) rfl (by kernel_rfl) (by kernel_rfl) (by kernel_rfl) (fun _ _ _ h => h) (Or.inl ⟨by rfl, ?_⟩) hHeld ?_
  rotate_left
  · intro W9 hSw; (try dsimp only at hSw); go_simp; (try with_reducible rfl)
  simp only [Act.put, List.getElem_toArray, List.getElem_cons_zero, List.getElem_cons_succ, List.setIfInBounds_toArray, List.set_cons_zero, List.set_cons_succ]
  refine wpAnyH_take (i := 8) (v := ?_) rfl (by kernel_rfl) (by kernel_rfl) (by kernel_rfl) (fun _ _ _ h => h) (Or.inl ⟨by rfl, ?_⟩) hHeld ?_
  rotate_left
  · intro W9 hSw; (try dsimp only at hSw); go_simp; (try with_reducible rfl)
  simp only [Act.put, List.getElem_toArray, List.getElem_cons_zero, List.getElem_cons_succ, List.setIfInBounds_toArray, List.set_cons_zero, List.set_cons_succ]
  refine wpAnyH_ready (rs := [4]) (by kernel_rfl) (by simp) ?_
  refine AllReadyH.cons rfl (fun K hK => ?_) AllReadyH.nil
  go_simp
  go_at_call 39
  refine (hP1.out _).mono ?_
  rintro e w3 ⟨rfl, hb3⟩
  replace hb3 := Lib.hid (undrew hb3)
  refine hK.out _ _ (hC.out _ hb3.out) (fun hHeld2 => ?_)
  clear hK K hHeld
  have hHeld := hHeld2
  clear hHeld2
  refine wpAnyH_ready (rs := [9]) (by kernel_rfl) (by simp) ?_
  refine AllReadyH.cons rfl (fun K hK => ?_) AllReadyH.nil
  go_simp
  go_at_call 39
  refine (hP2.out _).mono ?_
  rintro e w4 ⟨rfl, hb4⟩
  replace hb4 := Lib.hid (hb3.out.trans (hb4.mono hb3.out.size))
  refine hK.out _ _ (hC.out _ hb4.out) (fun hHeld2 => ?_)
  clear hK K hHeld
  have hHeld := hHeld2
  clear hHeld2
  refine wpAnyH_take (i := 10) (v := ?_) rfl (by kernel_rfl) (by kernel_rfl) (by kernel_rfl) (fun _ _ _ h => h) (Or.inl ⟨by rfl, ?_⟩) hHeld ?_
  rotate_left
  · intro W9 hSw; (try dsimp only at hSw); go_simp; (try with_reducible rfl)
  simp only [Act.put, List.getElem_toArray, List.getElem_cons_zero, List.getElem_cons_succ, List.setIfInBounds_toArray, List.set_cons_zero, List.set_cons_succ]
  refine wpAnyH_take (i := 11) (v := ?_) rfl (by kernel_rfl) (by kernel_rfl) (by kernel_rfl) (fun _ _ _ h => h) (Or.inl ⟨by rfl, ?_⟩) hHeld ?_
  rotate_left
  · intro W9 hSw; (try dsimp only at hSw); go_simp; (try with_reducible rfl)
  simp only [Act.put, List.getElem_toArray, List.getElem_cons_zero, List.getElem_cons_succ, List.setIfInBounds_toArray, List.set_cons_zero, List.set_cons_succ]
  refine wpAnyH_done (by kernel_rfl) ?_ _
  clear hHeld hb3
  clear w3
  go_wp2_with fail
  refine wp_region_held_drew (S := fun W => W.cell? ⟨bk, off + a * 8, none⟩ = some (.string x.name) ∧ W.cell? ⟨bk, off + a * 8 + 1, none⟩ = some (.int .i64 x.rating) ∧ W.cell? ⟨bk, off + a * 8 + 2, none⟩ = some (.int .i64 x.score) ∧ W.cell? ⟨bk, off + a * 8 + 3, none⟩ = some (.int .i64 x.whites) ∧ W.cell? ⟨bk, off + a * 8 + 4, none⟩ = some (.int .i64 x.blacks) ∧ W.cell? ⟨bk, off + a * 8 + 5, none⟩ = some (.int .i64 x.last) ∧ W.cell? ⟨bk, off + a * 8 + 6, none⟩ = some (.bool x.bye) ∧ W.cell? ⟨bk, off + a * 8 + 7, none⟩ = some (.slice x.mA x.met.length x.mc) ∧ W.cell? ⟨bk, off + b * 8, none⟩ = some (.string y.name) ∧ W.cell? ⟨bk, off + b * 8 + 1, none⟩ = some (.int .i64 y.rating) ∧ W.cell? ⟨bk, off + b * 8 + 2, none⟩ = some (.int .i64 y.score) ∧ W.cell? ⟨bk, off + b * 8 + 3, none⟩ = some (.int .i64 y.whites) ∧ W.cell? ⟨bk, off + b * 8 + 4, none⟩ = some (.int .i64 y.blacks) ∧ W.cell? ⟨bk, off + b * 8 + 5, none⟩ = some (.int .i64 y.last) ∧ W.cell? ⟨bk, off + b * 8 + 6, none⟩ = some (.bool y.bye) ∧ W.cell? ⟨bk, off + b * 8 + 7, none⟩ = some (.slice y.mA y.met.length y.mc)) (by kernel_rfl) (hC.out _ hb4.out.drew) (fun hHeld => ?_)
  refine wpAnyH_take (i := 0) (v := ?_) rfl (by kernel_rfl) (by kernel_rfl) (by kernel_rfl) (fun _ _ _ h => h) (Or.inl ⟨by rfl, ?_⟩) hHeld ?_
  rotate_left
  · intro W9 hSw; (try dsimp only at hSw); go_simp; (try with_reducible rfl)
  simp only [Act.put, List.getElem_toArray, List.getElem_cons_zero, List.getElem_cons_succ, List.setIfInBounds_toArray, List.set_cons_zero, List.set_cons_succ]
  refine wpAnyH_take (i := 1) (v := ?_) rfl (by kernel_rfl) (by kernel_rfl) (by kernel_rfl) (fun _ _ _ h => h) (Or.inl ⟨by rfl, ?_⟩) hHeld ?_
  rotate_left
  · intro W9 hSw; (try dsimp only at hSw); go_simp; (try with_reducible rfl)
  simp only [Act.put, List.getElem_toArray, List.getElem_cons_zero, List.getElem_cons_succ, List.setIfInBounds_toArray, List.set_cons_zero, List.set_cons_succ]
  refine wpAnyH_take (i := 2) (v := ?_) rfl (by kernel_rfl) (by kernel_rfl) (by kernel_rfl) (fun _ _ _ h => h) (Or.inl ⟨by rfl, ?_⟩) hHeld ?_
  rotate_left
  · intro W9 hSw; (try dsimp only at hSw); go_simp; (try with_reducible rfl)
  simp only [Act.put, List.getElem_toArray, List.getElem_cons_zero, List.getElem_cons_succ, List.setIfInBounds_toArray, List.set_cons_zero, List.set_cons_succ]
  refine wpAnyH_take (i := 3) (v := ?_) rfl (by kernel_rfl) (by kernel_rfl) (by kernel_rfl) (fun _ _ _ h => h) (Or.inl ⟨by rfl, ?_⟩) hHeld ?_
  rotate_left
  · intro W9 hSw; (try dsimp only at hSw); go_simp; (try with_reducible rfl)
  simp only [Act.put, List.getElem_toArray, List.getElem_cons_zero, List.getElem_cons_succ, List.setIfInBounds_toArray, List.set_cons_zero, List.set_cons_succ]
  refine wpAnyH_take (i := 5) (v := ?_) rfl (by kernel_rfl) (by kernel_rfl) (by kernel_rfl) (fun _ _ _ h => h) (Or.inl ⟨by rfl, ?_⟩) hHeld ?_
  rotate_left
  · intro W9 hSw; (try dsimp only at hSw); go_simp; (try with_reducible rfl)
  simp only [Act.put, List.getElem_toArray, List.getElem_cons_zero, List.getElem_cons_succ, List.setIfInBounds_toArray, List.set_cons_zero, List.set_cons_succ]
  refine wpAnyH_take (i := 6) (v := ?_) rfl (by kernel_rfl) (by kernel_rfl) (by kernel_rfl) (fun _ _ _ h => h) (Or.inl ⟨by rfl, ?_⟩) hHeld ?_
  rotate_left
  · intro W9 hSw; (try dsimp only at hSw); go_simp; (try with_reducible rfl)
  simp only [Act.put, List.getElem_toArray, List.getElem_cons_zero, List.getElem_cons_succ, List.setIfInBounds_toArray, List.set_cons_zero, List.set_cons_succ]
  refine wpAnyH_take (i := 7) (v := ?_) rfl (by kernel_rfl) (by kernel_rfl) (by kernel_rfl) (fun _ _ _ h => h) (Or.inl ⟨by rfl, ?_⟩) hHeld ?_
  rotate_left
  · intro W9 hSw; (try dsimp only at hSw); go_simp; (try with_reducible rfl)
  simp only [Act.put, List.getElem_toArray, List.getElem_cons_zero, List.getElem_cons_succ, List.setIfInBounds_toArray, List.set_cons_zero, List.set_cons_succ]
  refine wpAnyH_take (i := 8) (v := ?_) rfl (by kernel_rfl) (by kernel_rfl) (by kernel_rfl) (fun _ _ _ h => h) (Or.inl ⟨by rfl, ?_⟩) hHeld ?_
  rotate_left
  · intro W9 hSw; (try dsimp only at hSw); go_simp; (try with_reducible rfl)
  simp only [Act.put, List.getElem_toArray, List.getElem_cons_zero, List.getElem_cons_succ, List.setIfInBounds_toArray, List.set_cons_zero, List.set_cons_succ]
  refine wpAnyH_ready (rs := [4]) (by kernel_rfl) (by simp) ?_
  refine AllReadyH.cons rfl (fun K hK => ?_) AllReadyH.nil
  go_simp
  go_at_call 39
  refine (hP3.out _).mono ?_
  rintro e w5 ⟨rfl, hb5⟩
  replace hb5 := Lib.hid (hb4.out.trans ((undrew hb5).mono hb4.out.size))
  refine hK.out _ _ (hC.out _ hb5.out) (fun hHeld2 => ?_)
  clear hK K hHeld
  have hHeld := hHeld2
  clear hHeld2
  refine wpAnyH_ready (rs := [9]) (by kernel_rfl) (by simp) ?_
  refine AllReadyH.cons rfl (fun K hK => ?_) AllReadyH.nil
  go_simp
  go_at_call 39
  refine (hP4.out _).mono ?_
  rintro e w6 ⟨rfl, hb6⟩
  replace hb6 := Lib.hid (hb5.out.trans (hb6.mono hb5.out.size))
  refine hK.out _ _ (hC.out _ hb6.out) (fun hHeld2 => ?_)
  clear hK K hHeld
  have hHeld := hHeld2
  clear hHeld2
  refine wpAnyH_take (i := 10) (v := ?_) rfl (by kernel_rfl) (by kernel_rfl) (by kernel_rfl) (fun _ _ _ h => h) (Or.inl ⟨by rfl, ?_⟩) hHeld ?_
  rotate_left
  · intro W9 hSw; (try dsimp only at hSw); go_simp; (try with_reducible rfl)
  simp only [Act.put, List.getElem_toArray, List.getElem_cons_zero, List.getElem_cons_succ, List.setIfInBounds_toArray, List.set_cons_zero, List.set_cons_succ]
  refine wpAnyH_take (i := 11) (v := ?_) rfl (by kernel_rfl) (by kernel_rfl) (by kernel_rfl) (fun _ _ _ h => h) (Or.inl ⟨by rfl, ?_⟩) hHeld ?_
  rotate_left
  · intro W9 hSw; (try dsimp only at hSw); go_simp; (try with_reducible rfl)
  simp only [Act.put, List.getElem_toArray, List.getElem_cons_zero, List.getElem_cons_succ, List.setIfInBounds_toArray, List.set_cons_zero, List.set_cons_succ]
  refine wpAnyH_done (by kernel_rfl) ?_ _
  clear hHeld hC hP1 hP2 hP3 hP4 hb4 hb5
  clear w5 w4
  have r1 := (hEx.out.next hbk hb6.out).e1
  have r2 := (hEy.out.next hbk hb6.out).e1
  have s1 := (hEx.out.next hbk hb6.out).e2
  have s2 := (hEy.out.next hbk hb6.out).e2
  rcases Int.lt_trichotomy Y X with h | h | h
  · have hV : Hid ((whiteI x y a b) = b) := if_neg (fun hw => by rcases hwin.out.1 hw with h5 | h5 <;> omega)
    have h1 : (Y < X) = True := eq_true h
    clear hwin h
    go_wp2_with fail
    go_quiet (fail)
    go_wp2_with fail
    go_quiet (fail)
    go_wp2_with fail
    go_ret2
    exact ⟨PC.rt2 (PC.vi hV.out.symm) (PC.vi hPC2.out.symm), below_drewN hb6.out _⟩
  · by_cases hrt : x.rating < y.rating
    · have hV : Hid ((whiteI x y a b) = b) := if_neg (fun hw => (hwin.out.1 hw).elim (fun h5 => absurd h5 (by omega)) (fun h5 => by omega))
      have h1 : (Y < X) = False := eq_false (by omega)
      have h2 : (Y == X) = true := by rw [beq_iff_eq]; exact h
      have h3 : (x.rating < y.rating) = True := eq_true hrt
      clear hwin h hrt
      go_wp2_with fail
      go_quiet (fail)
      go_wp2_with fail
      go_quiet (fail)
      go_wp2_with fail
      go_ret2
      exact ⟨PC.rt2 (PC.vi hV.out.symm) (PC.vi hPC2.out.symm), below_drewN hb6.out _⟩
    · have hV : Hid ((whiteI x y a b) = a) := if_pos (hwin.out.2 (Or.inr ⟨h.symm, by omega⟩))
      have h1 : (Y < X) = False := eq_false (by omega)
      have h2 : (Y == X) = true := by rw [beq_iff_eq]; exact h
      have h3 : (x.rating < y.rating) = False := eq_false hrt
      clear hwin h hrt
      go_wp2_with fail
      go_quiet (fail)
      go_wp2_with fail
      go_quiet (fail)
      go_wp2_with fail
      go_ret2
      exact ⟨PC.rt2 (PC.vi hV.out.symm) (PC.vi hPC2.out.symm), below_drewN hb6.out _⟩
  · have hV : Hid ((whiteI x y a b) = a) := if_pos (hwin.out.2 (Or.inl h))
    have h1 : (Y < X) = False := eq_false (by omega)
    have h2 : (Y == X) = false := by rw [beq_eq_false_iff_ne]; omega
    clear hwin h
    go_wp2_with fail
    go_quiet (fail)
    go_wp2_with fail
    go_quiet (fail)
    go_wp2_with fail
    go_ret2
    exact ⟨PC.rt2 (PC.vi hV.out.symm) (PC.vi hPC2.out.symm), below_drewN hb6.out _⟩
theorem lowF_le : ∀ (l : List Ent) (s : Int), lowF l s ≤ s ∧ ∀ x ∈ l, lowF l s ≤ x.score
  | [], s => ⟨Int.le_refl _, fun x h => absurd h (List.not_mem_nil)⟩
  | y :: l, s => by
    have h := lowF_le l (min s y.score)
    refine ⟨Int.le_trans h.1 (by omega), fun x hx => ?_⟩
    rcases List.mem_cons.1 hx with rfl | hx
    · exact Int.le_trans h.1 (by omega)
    · exact h.2 x hx
theorem lowF_in : ∀ (l : List Ent) (s : Int), lowF l s = s ∨ ∃ x ∈ l, lowF l s = x.score
  | [], s => Or.inl rfl
  | y :: l, s => by
    rcases lowF_in l (min s y.score) with h | ⟨x, hx, h⟩
    · have h' : lowF (y :: l) s = min s y.score := h
      by_cases hs : s ≤ y.score
      · left; rw [h']; omega
      · right; exact ⟨y, List.mem_cons_self, by rw [h']; omega⟩
    · exact Or.inr ⟨x, List.mem_cons_of_mem _ hx, h⟩
theorem lowF_one {l : List Ent} {x y : Ent} (hx : x ∈ l) (hy : y ∈ l) : lowF l x.score = lowF l y.score := by
  have key : ∀ a b : Ent, a ∈ l → b ∈ l → lowF l a.score ≤ lowF l b.score := fun a b ha hb => by
    rcases lowF_in l b.score with h | ⟨z, hz, h⟩
    · rw [h]; exact (lowF_le l a.score).2 b hb
    · rw [h]; exact (lowF_le l a.score).2 z hz
  exact Int.le_antisymm (key x y hx hy) (key y x hy hx)
set_option maxRecDepth 100000 in
set_option maxHeartbeats 4000000 in
theorem lbye1 (A : Option Addr) (l : List Ent) (c a : Nat) (x : Ent) (w : World) (hF : FH w A l c) (hx : l[a]? = some x) (hby : x.bye = true) :
    Calls Tryd.prog 19 #[.slice A l.length c, .int .i64 (a : Int)] w fun e w' => e = .returned (.int .i64 (-1)) ∧ Below w.heap.size w w' := by
  have hal : a < l.length := (List.getElem?_eq_some_iff.1 hx).1
  have haI : (a : Int) < (l.length : Int) := by omega
  have ha0 : (0 : Int) ≤ (a : Int) := Int.natCast_nonneg _
  have hl := hF.len
  obtain ⟨bk, off, hAt, hbk, hE⟩ := ent8 hF.fld.row (by omega)
  subst hAt
  have e6 := (hE a x hx).e6
  rw [hby] at e6
  clear hE hx hF hby
  go_enter Tryd.func19, Tryd.ntmps19
  go_wp2_with fail
  go_ret
  exact ⟨rfl, Below.refl _ _⟩
set_option maxRecDepth 100000 in
set_option maxHeartbeats 4000000 in
theorem lbye2 (A : Option Addr) (l : List Ent) (c a : Nat) (x : Ent) (w : World) (hF : FH w A l c) (hx : l[a]? = some x) (hok : ∀ x ∈ l, numOk x) (hby : x.bye = false) :
    Calls Tryd.prog 19 #[.slice A l.length c, .int .i64 (a : Int)] w fun e w' => e = .returned (.int .i64 (100 * (x.score - lowF l x.score) * (x.score - lowF l x.score))) ∧ Below w.heap.size w w' := by
  have hal : a < l.length := (List.getElem?_eq_some_iff.1 hx).1
  have haI : (a : Int) < (l.length : Int) := by omega
  have ha0 : (0 : Int) ≤ (a : Int) := Int.natCast_nonneg _
  have hl0 : (0 : Int) < (l.length : Int) := by omega
  have hl := hF.len
  obtain ⟨bk, off, hAt, hbk, hE⟩ := ent8 hF.fld.row (by omega)
  subst hAt
  obtain ⟨u, hu⟩ : ∃ u, l[0]? = some u := ⟨_, List.getElem?_eq_getElem (by omega)⟩
  have hEx := Lib.hid (hE a x hx)
  have hEH := Lib.hid hE
  have e6 := hEx.out.e6
  have e2 := hEx.out.e2
  have u2 := (hE 0 u hu).e2
  rw [show off + 0 * 8 + 2 = off + 2 by omega] at u2
  rw [hby] at e6
  rw [lowF_one (List.mem_of_getElem? hx) (List.mem_of_getElem? hu)]
  have hsx := (hok x (List.mem_of_getElem? hx)).2
  have hsu0 := (hok u (List.mem_of_getElem? hu)).2
  have hle : Hid (lowF l u.score ≤ x.score) := (lowF_le l u.score).2 x (List.mem_of_getElem? hx)
  generalize x.score = s at *
  generalize u.score = s0 at *
  obtain ⟨s0', s1'⟩ := hsx
  obtain ⟨z0, z1⟩ := hsu0
  have hbdk : ∀ k, 0 ≤ lowK l s0 k ∧ lowK l s0 k ≤ s0 := fun k => lowF_bd _ s0 (fun y hy => hok y (List.mem_of_mem_take hy)) z0
  have hbdH := Lib.hid hbdk
  have hz : lowK l s0 0 = s0 := rfl
  have hzH := Lib.hid hz
  clear hE hx hF hby hok hbdk hu hz
  go_enter Tryd.func19, Tryd.ntmps19
  go_wp2_with fail
  go_loop [5, 6] (fun m i => ∃ k : Nat, k ≤ l.length ∧ i = .int .i64 k ∧ m = .int .i64 (lowK l s0 k)) (fun _ i => l.length - (intOf i).toNat)
  case atStart => exact ⟨0, by omega, rfl, by rw [hzH.out]⟩
  case round =>
    obtain ⟨k, hk, rfl, rfl⟩ := hrel
    by_cases hkn : k < l.length
    · obtain ⟨y, hy⟩ : ∃ y, l[k]? = some y := ⟨_, List.getElem?_eq_getElem hkn⟩
      have f2 := (hEH.out k y hy).e2
      have hkI : (k : Int) < (l.length : Int) := by omega
      have hk0 : (0 : Int) ≤ (k : Int) := Int.natCast_nonneg _
      have hsu : lowK l s0 (k + 1) = min (lowK l s0 k) y.score := lowF_succ hy
      replace hsu := Lib.hid hsu
      clear hy
      generalize hL : lowK l s0 k = L
      rw [hL] at hsu
      replace hL := Lib.hid hL
      go_wp2_with fail
      go_round
      case rel => exact ⟨k + 1, by omega, by go_num, by rw [hsu.out]⟩
      case measure => simp [intOf]; omega
    · obtain rfl : k = l.length := by omega
      have hbd := hbdH.out l.length
      have hLe : lowK l s0 l.length = lowF l s0 := by unfold lowK; rw [List.take_length]
      have hle2 := hle.out
      rw [← hLe] at hle2
      generalize lowK l s0 l.length = L at *
      obtain ⟨L0, L1⟩ := hbd
      obtain ⟨D, hD⟩ : ∃ D, s - L = D := ⟨_, rfl⟩
      have hq := sq_bd (d := D) (by omega) (by omega)
      have hV : Hid (100 * (s - lowF l s0) * (s - lowF l s0) = 100 * D * D) := by show _ = _; rw [← hLe, hD]
      have g1 : IntKind.i64.wrap (s - L) = D := by rw [hD]; exact IntWalk.i64_in _ (by omega)
      have g2 : IntKind.i64.wrap (100 * D) = 100 * D := IntWalk.i64_in _ (by omega)
      have g3 : IntKind.i64.wrap (100 * D * D) = 100 * D * D := IntWalk.i64_in _ (by omega)
      clear hLe hD hq hle2
      go_wp2_with fail
      go_quiet (fail)
      go_wp2_with fail
      go_ret
      exact ⟨PC.ri hV.out.symm, below_drewN (Below.refl _ _) _⟩
theorem lbye (A : Option Addr) (l : List Ent) (c a : Nat) (x : Ent) (w : World) (hF : FH w A l c) (hx : l[a]? = some x) (hok : ∀ x ∈ l, numOk x) :
    Calls Tryd.prog 19 #[.slice A l.length c, .int .i64 (a : Int)] w fun e w' => e = .returned (.int .i64 (byeC l x)) ∧ Below w.heap.size w w' := by
  cases hby : x.bye with
  | true =>
    have hV2 : byeC l x = -1 := by unfold byeC; rw [hby]; rfl
    rw [hV2]
    exact lbye1 A l c a x w hF hx hby
  | false =>
    have hV2 : byeC l x = 100 * (x.score - lowF l x.score) * (x.score - lowF l x.score) := by unfold byeC; rw [hby]; rfl
    rw [hV2]
    exact lbye2 A l c a x w hF hx hok hby
/-- no bye can be asked for -/
def badB (l : List Ent) (p : Int) : Prop := ¬ okF l ∨ ¬ (0 ≤ p ∧ p < l.length) ∨ l.length % 2 = 0
set_option maxRecDepth 100000 in
set_option maxHeartbeats 4000000 in
theorem pBye_bad (A : Option Addr) (l : List Ent) (c : Nat) (p : Int) (w : World) (hF : FH w A l c) (h : badB l p) : Calls Tryd.prog 18 #[.slice A l.length c, .int .i64 p] w fun e w' => e = .returned (.tuple #[.int .i64 0, .int .i64 2]) ∧ Below w.heap.size w w' := by
  have hl := hF.len
  have gL : IntKind.i64.wrap ((l.length : Int) - 1) = (l.length : Int) - 1 := IntWalk.i64_in _ (by omega)
  have hV := Lib.hid hF.pvalid
  have ht := tmod_two l.length
  have hw0 : IntKind.i64.wrap ((l.length % 2 : Nat) : Int) = ((l.length % 2 : Nat) : Int) := IntWalk.i64_in _ (by omega)
  by_cases h1 : okF l
  · rw [fB_true h1] at hV
    by_cases h2 : 0 ≤ p ∧ p < l.length
    · have i1 := in_len hl h2
      have h3 : l.length % 2 = 0 := (h.resolve_left (fun h => h h1)).resolve_left (fun h => h h2)
      rw [h3] at ht hw0
      clear h h2 h3 h1
      go_enter Tryd.func18, Tryd.ntmps18
      go_wp2_with (first | (go_at_call 10; refine hV.out.mono ?_; rintro e w1 ⟨rfl, hb1⟩) | (go_at_call 30; refine (pwithin _ _ _ _).mono ?_; rintro e w' ⟨rfl, rfl⟩))
      go_ret2
      exact ⟨rfl, hb1⟩
    · have i1 := in_len_no hl h2
      clear h h2 h1
      go_enter Tryd.func18, Tryd.ntmps18
      go_wp2_with (first | (go_at_call 10; refine hV.out.mono ?_; rintro e w1 ⟨rfl, hb1⟩) | (go_at_call 30; refine (pwithin _ _ _ _).mono ?_; rintro e w' ⟨rfl, rfl⟩))
      go_ret2
      exact ⟨rfl, hb1⟩
  · rw [fB_false h1] at hV
    clear h h1
    go_enter Tryd.func18, Tryd.ntmps18
    go_wp2_with (first | (go_at_call 10; refine hV.out.mono ?_; rintro e w1 ⟨rfl, hb1⟩))
    go_ret2
    exact ⟨rfl, hb1⟩
set_option maxRecDepth 100000 in
set_option maxHeartbeats 4000000 in
theorem pBye_ok (A : Option Addr) (l : List Ent) (c a : Nat) (x : Ent) (w : World) (hF : FH w A l c) (hv : okF l) (hx : l[a]? = some x) (hodd : l.length % 2 = 1) :
    (byeC l x = -1 → Calls Tryd.prog 18 #[.slice A l.length c, .int .i64 (a : Int)] w fun e w' => e = .returned (.tuple #[.int .i64 0, .int .i64 9]) ∧ Below w.heap.size w w') ∧
    (byeC l x ≠ -1 → Calls Tryd.prog 18 #[.slice A l.length c, .int .i64 (a : Int)] w fun e w' => e = .returned (.tuple #[.int .i64 (byeC l x), .int .i64 0]) ∧ Below w.heap.size w w') := by
  have hl := hF.len
  have hal : a < l.length := (List.getElem?_eq_some_iff.1 hx).1
  have gL : IntKind.i64.wrap ((l.length : Int) - 1) = (l.length : Int) - 1 := IntWalk.i64_in _ (by omega)
  have hV := Lib.hid hF.pvalid
  rw [fB_true hv] at hV
  have ht := tmod_two l.length
  have hw0 : IntKind.i64.wrap ((l.length % 2 : Nat) : Int) = ((l.length % 2 : Nat) : Int) := IntWalk.i64_in _ (by omega)
  rw [hodd] at ht hw0
  have i1 := in_len hl (p := (a : Int)) ⟨by omega, by omega⟩
  have hcv : cst l a l.length = byeC l x := by unfold cst; rw [hx]; exact if_pos rfl
  have hC : Hid (∀ W, Below w.heap.size w W → Calls Tryd.prog 38 #[.slice A l.length c, .int .i64 (a : Int), .int .i64 (l.length : Int)] W fun e w' => e = .returned (.int .i64 (byeC l x)) ∧ Below W.heap.size W w') := fun W h => by
    have := (hF.next h).pcost hv hal (Nat.le_refl _) (p := (a : Int)) (q := (l.length : Int)) (by omega) (by omega)
    rwa [hcv] at this
  clear hF hv hcv hx hodd
  generalize byeC l x = K at *
  refine ⟨fun hK => ?_, fun hK => ?_⟩
  · have hK2 : (K == -1) = true := by rw [beq_iff_eq]; exact hK
    clear hK
    go_enter Tryd.func18, Tryd.ntmps18
    go_wp2_with (first | (go_at_call 10; refine hV.out.mono ?_; rintro e w1 ⟨rfl, hb1⟩; replace hb1 := Lib.hid hb1) | (go_at_call 30; refine (pwithin _ _ _ _).mono ?_; rintro e w' ⟨rfl, rfl⟩) | (go_at_call 38; refine (hC.out _ hb1.out).mono ?_; rintro e w2 ⟨rfl, hb2⟩))
    go_ret2
    exact ⟨rfl, hb1.out.trans (hb2.mono hb1.out.size)⟩
  · have hK2 : (K == -1) = false := by rw [beq_eq_false_iff_ne]; exact hK
    clear hK
    go_enter Tryd.func18, Tryd.ntmps18
    go_wp2_with (first | (go_at_call 10; refine hV.out.mono ?_; rintro e w1 ⟨rfl, hb1⟩; replace hb1 := Lib.hid hb1) | (go_at_call 30; refine (pwithin _ _ _ _).mono ?_; rintro e w' ⟨rfl, rfl⟩) | (go_at_call 38; refine (hC.out _ hb1.out).mono ?_; rintro e w2 ⟨rfl, hb2⟩))
    go_ret2
    exact ⟨rfl, hb1.out.trans (hb2.mono hb1.out.size)⟩
end Go.Proofs.YtjjjdoealagpcaaDoor
