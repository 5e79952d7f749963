/- Layer 43: who plays White, and what it costs: the program's colors. -/
import Derived.Test.YtjjjdoealagpcaaDoorGc
import Derived.Deep.RegionHeld3
namespace Go.Proofs.YtjjjdoealagpcaaDoor
open Go Go.RowKit
set_option linter.unusedSimpArgs false
set_option linter.unusedVariables false
theorem undrew {w w' : World} (hb : Below w.drew.heap.size w.drew w') : Below w.heap.size w w' := ⟨hb.os, hb.tape, hb.output, hb.size, hb.block⟩
/-- the eight cells of an entrant -/
structure E8 (w : World) (b o : Nat) (x : Ent) : Prop where
  e0 : w.cell? ⟨b, o, none⟩ = some (.string x.name)
  e1 : w.cell? ⟨b, o + 1, none⟩ = some (.int .i64 x.rating)
  e2 : w.cell? ⟨b, o + 2, none⟩ = some (.int .i64 x.score)
  e3 : w.cell? ⟨b, o + 3, none⟩ = some (.int .i64 x.whites)
  e4 : w.cell? ⟨b, o + 4, none⟩ = some (.int .i64 x.blacks)
  e5 : w.cell? ⟨b, o + 5, none⟩ = some (.int .i64 x.last)
  e6 : w.cell? ⟨b, o + 6, none⟩ = some (.bool x.bye)
  e7 : w.cell? ⟨b, o + 7, none⟩ = some (.slice x.mA x.met.length x.mc)
theorem E8.next {w w' : World} {b o : Nat} {x : Ent} (h : E8 w b o x) (hb : b < w.heap.size) (hB : Below w.heap.size w w') : E8 w' b o x :=
  ⟨(hB.cell (p := ⟨b, _, none⟩) hb).trans h.e0, (hB.cell (p := ⟨b, _, none⟩) hb).trans h.e1, (hB.cell (p := ⟨b, _, none⟩) hb).trans h.e2, (hB.cell (p := ⟨b, _, none⟩) hb).trans h.e3, (hB.cell (p := ⟨b, _, none⟩) hb).trans h.e4, (hB.cell (p := ⟨b, _, none⟩) hb).trans h.e5, (hB.cell (p := ⟨b, _, none⟩) hb).trans h.e6, (hB.cell (p := ⟨b, _, none⟩) hb).trans h.e7⟩
theorem ent8 {w : World} {B : Nat} {A : Option Addr} {l : List Ent} (h : RecAt eEnc 8 w B A l) (h0 : 0 < l.length) :
    ∃ b off, A = some ⟨b, off, none⟩ ∧ b < B ∧ ∀ k x, l[k]? = some x → E8 w b (off + k * 8) x := by
  obtain ⟨b, off, e, hb, hc⟩ := h h0
  exact ⟨b, off, e, hb, fun k x hx => ⟨hc k x hx 0 _ rfl, hc k x hx 1 _ rfl, hc k x hx 2 _ rfl, hc k x hx 3 _ rfl, hc k x hx 4 _ rfl, hc k x hx 5 _ rfl, hc k x hx 6 _ rfl, hc k x hx 7 _ rfl⟩⟩
/-- what it costs if the first one plays White -/
def aheadC (x y : Ent) : Int := colV x true + colV y false
/-- does the first one (of the lower index) play White? -/
def winsW (x y : Ent) : Prop := aheadC x y < aheadC y x ∨ aheadC x y = aheadC y x ∧ y.rating ≤ x.rating
instance (x y : Ent) : Decidable (winsW x y) := by unfold winsW; infer_instance
/-- who plays White -/
def whiteI (x y : Ent) (a b : Nat) : Int := if winsW x y then (a : Int) else (b : Int)
def colC (x y : Ent) : Int := if winsW x y then aheadC x y else aheadC y x
theorem colV_bd (x : Ent) (b : Bool) : 0 ≤ colV x b ∧ colV x b ≤ 3 := by unfold colV; split <;> split <;> omega
theorem aheadC_bd (x y : Ent) : 0 ≤ aheadC x y ∧ aheadC x y ≤ 6 := by have := colV_bd x true; have := colV_bd y false; unfold aheadC; omega
theorem colC_bd (x y : Ent) : 0 ≤ colC x y ∧ colC x y ≤ 6 := by have := aheadC_bd x y; have := aheadC_bd y x; unfold colC; split <;> omega
/-- the games of an entrant are within the limits -/
def gamesOk (x : Ent) : Prop := (0 ≤ x.whites ∧ x.whites ≤ 1000) ∧ (0 ≤ x.blacks ∧ x.blacks ≤ 1000)
theorem add8 (a b : Nat) : a + b = a + b := rfl
set_option maxRecDepth 100000 in
set_option maxHeartbeats 4000000 in
theorem pcolors (A : Option Addr) (l : List Ent) (c a b : Nat) (x y : Ent) (w : World) (hF : RecAt eEnc 8 w w.heap.size A l) (hx : l[a]? = some x) (hy : l[b]? = some y) (gx : gamesOk x) (gy : gamesOk y) (hl : l.length ≤ 100000) :
    Calls Tryd.prog 35 #[.slice A l.length c, .int .i64 (a : Int), .int .i64 (b : Int)] w fun e w' => e = .returned (.tuple #[.int .i64 (whiteI x y a b), .int .i64 (colC x y)]) ∧ Below w.heap.size w w' := by
  have hal : a < l.length := (List.getElem?_eq_some_iff.1 hx).1
  have hbl : b < l.length := (List.getElem?_eq_some_iff.1 hy).1
  have haI : (a : Int) < (l.length : Int) := by omega
  have hbI : (b : Int) < (l.length : Int) := by omega
  have ha0 : (0 : Int) ≤ (a : Int) := Int.natCast_nonneg _
  have hb0 : (0 : Int) ≤ (b : Int) := Int.natCast_nonneg _
  obtain ⟨bk, off, hAt, hbk, hE⟩ := ent8 hF (by omega)
  subst hAt
  have hEx := Lib.hid (hE a x hx)
  have hEy := Lib.hid (hE b y hy)
  have hP1 : Hid (∀ W, Calls Tryd.prog 45 #[eV x, .int .i64 1] W fun e w' => e = .returned (.int .i64 (colV x true)) ∧ Below W.heap.size W w') := fun W => pcolor x true W gx.1 gx.2
  have hP2 : Hid (∀ W, Calls Tryd.prog 45 #[eV y, .int .i64 2] W fun e w' => e = .returned (.int .i64 (colV y false)) ∧ Below W.heap.size W w') := fun W => pcolor y false W gy.1 gy.2
  have hP3 : Hid (∀ W, Calls Tryd.prog 45 #[eV y, .int .i64 1] W fun e w' => e = .returned (.int .i64 (colV y true)) ∧ Below W.heap.size W w') := fun W => pcolor y true W gy.1 gy.2
  have hP4 : Hid (∀ W, Calls Tryd.prog 45 #[eV x, .int .i64 2] W fun e w' => e = .returned (.int .i64 (colV x false)) ∧ Below W.heap.size W w') := fun W => pcolor x false W gx.1 gx.2
  have hr : Hid ((whiteI x y a b) = whiteI x y a b) := rfl
  have q1 := colV_bd x true
  have q2 := colV_bd y false
  have q3 := colV_bd y true
  have q4 := colV_bd x false
  have hXe : Hid (colV x true + colV y false = aheadC x y) := rfl
  have hYe : Hid (colV y true + colV x false = aheadC y x) := rfl
  have hC : Hid (∀ W, Below w.heap.size w W → W.cell? ⟨bk, off + a * 8, none⟩ = some (.string x.name) ∧ W.cell? ⟨bk, off + a * 8 + 1, none⟩ = some (.int .i64 x.rating) ∧ W.cell? ⟨bk, off + a * 8 + 2, none⟩ = some (.int .i64 x.score) ∧ W.cell? ⟨bk, off + a * 8 + 3, none⟩ = some (.int .i64 x.whites) ∧ W.cell? ⟨bk, off + a * 8 + 4, none⟩ = some (.int .i64 x.blacks) ∧ W.cell? ⟨bk, off + a * 8 + 5, none⟩ = some (.int .i64 x.last) ∧ W.cell? ⟨bk, off + a * 8 + 6, none⟩ = some (.bool x.bye) ∧ W.cell? ⟨bk, off + a * 8 + 7, none⟩ = some (.slice x.mA x.met.length x.mc) ∧ W.cell? ⟨bk, off + b * 8, none⟩ = some (.string y.name) ∧ W.cell? ⟨bk, off + b * 8 + 1, none⟩ = some (.int .i64 y.rating) ∧ W.cell? ⟨bk, off + b * 8 + 2, none⟩ = some (.int .i64 y.score) ∧ W.cell? ⟨bk, off + b * 8 + 3, none⟩ = some (.int .i64 y.whites) ∧ W.cell? ⟨bk, off + b * 8 + 4, none⟩ = some (.int .i64 y.blacks) ∧ W.cell? ⟨bk, off + b * 8 + 5, none⟩ = some (.int .i64 y.last) ∧ W.cell? ⟨bk, off + b * 8 + 6, none⟩ = some (.bool y.bye) ∧ W.cell? ⟨bk, off + b * 8 + 7, none⟩ = some (.slice y.mA y.met.length y.mc)) := fun W h => by
    have h1 := hEx.out.next hbk h
    have h2 := hEy.out.next hbk h
    exact ⟨h1.e0, h1.e1, h1.e2, h1.e3, h1.e4, h1.e5, h1.e6, h1.e7, h2.e0, h2.e1, h2.e2, h2.e3, h2.e4, h2.e5, h2.e6, h2.e7⟩
  generalize colV x true = p1 at *
  generalize colV y false = p2 at *
  generalize colV y true = p3 at *
  generalize colV x false = p4 at *
  generalize hX : aheadC x y = X at *
  generalize hY : aheadC y x = Y at *
  have g1 : IntKind.i64.wrap (p1 + p2) = X := by rw [← hXe.out]; exact IntWalk.i64_in _ (by omega)
  have g2 : IntKind.i64.wrap (p3 + p4) = Y := by rw [← hYe.out]; exact IntWalk.i64_in _ (by omega)
  replace hX := Lib.hid hX
  replace hY := Lib.hid hY
  clear hE hx hy gx gy hF hXe hYe q1 q2 q3 q4
  go_enter Tryd.func35, Tryd.ntmps35
  go_upto_region 1 with fail
  refine wp_region_held_drew (S := fun W => W.cell? ⟨bk, off + a * 8, none⟩ = some (.string x.name) ∧ W.cell? ⟨bk, off + a * 8 + 1, none⟩ = some (.int .i64 x.rating) ∧ W.cell? ⟨bk, off + a * 8 + 2, none⟩ = some (.int .i64 x.score) ∧ W.cell? ⟨bk, off + a * 8 + 3, none⟩ = some (.int .i64 x.whites) ∧ W.cell? ⟨bk, off + a * 8 + 4, none⟩ = some (.int .i64 x.blacks) ∧ W.cell? ⟨bk, off + a * 8 + 5, none⟩ = some (.int .i64 x.last) ∧ W.cell? ⟨bk, off + a * 8 + 6, none⟩ = some (.bool x.bye) ∧ W.cell? ⟨bk, off + a * 8 + 7, none⟩ = some (.slice x.mA x.met.length x.mc) ∧ W.cell? ⟨bk, off + b * 8, none⟩ = some (.string y.name) ∧ W.cell? ⟨bk, off + b * 8 + 1, none⟩ = some (.int .i64 y.rating) ∧ W.cell? ⟨bk, off + b * 8 + 2, none⟩ = some (.int .i64 y.score) ∧ W.cell? ⟨bk, off + b * 8 + 3, none⟩ = some (.int .i64 y.whites) ∧ W.cell? ⟨bk, off + b * 8 + 4, none⟩ = some (.int .i64 y.blacks) ∧ W.cell? ⟨bk, off + b * 8 + 5, none⟩ = some (.int .i64 y.last) ∧ W.cell? ⟨bk, off + b * 8 + 6, none⟩ = some (.bool y.bye) ∧ W.cell? ⟨bk, off + b * 8 + 7, none⟩ = some (.slice y.mA y.met.length y.mc)) (by kernel_rfl) (hC.out _ ((Below.refl _ _).drew)) (fun hHeld => ?_)
  refine wpAnyH_take (i := 0) (v := ?_) rfl (by kernel_rfl) (by kernel_rfl) (by kernel_rfl) (fun _ _ _ h => h) (Or.inl ⟨by rfl, ?_⟩) hHeld ?_
  rotate_left
  · intro W9 hSw; (try dsimp only at hSw); go_simp; (try with_reducible rfl)
  simp only [Act.put, List.getElem_toArray, List.getElem_cons_zero, List.getElem_cons_succ, List.setIfInBounds_toArray, List.set_cons_zero, List.set_cons_succ]
  refine wpAnyH_take (i := 1) (v := ?_) rfl (by kernel_rfl) (by kernel_rfl) (by kernel_rfl) (fun _ _ _ h => h) (Or.inl ⟨by rfl, ?_⟩) hHeld ?_
  rotate_left
  · intro W9 hSw; (try dsimp only at hSw); go_simp; (try with_reducible rfl)
  simp only [Act.put, List.getElem_toArray, List.getElem_cons_zero, List.getElem_cons_succ, List.setIfInBounds_toArray, List.set_cons_zero, List.set_cons_succ]
  refine wpAnyH_take (i := 2) (v := ?_) rfl (by kernel_rfl) (by kernel_rfl) (by kernel_rfl) (fun _ _ _ h => h) (Or.inl ⟨by rfl, ?_⟩) hHeld ?_
  rotate_left
  · intro W9 hSw; (try dsimp only at hSw); go_simp; (try with_reducible rfl)
  simp only [Act.put, List.getElem_toArray, List.getElem_cons_zero, List.getElem_cons_succ, List.setIfInBounds_toArray, List.set_cons_zero, List.set_cons_succ]
  refine wpAnyH_take (i := 3) (v := ?_) rfl (by kernel_rfl) (by kernel_rfl) (by kernel_rfl) (fun _ _ _ h => h) (Or.inl ⟨by rfl, ?_⟩) hHeld ?_
  rotate_left
  · intro W9 hSw; (try dsimp only at hSw); go_simp; (try with_reducible rfl)
  simp only [Act.put, List.getElem_toArray, List.getElem_cons_zero, List.getElem_cons_succ, List.setIfInBounds_toArray, List.set_cons_zero, List.set_cons_succ]
  refine wpAnyH_take (i := 5) (v := ?_) rfl (by kernel_rfl) (by kernel_rfl) (by kernel_rfl) (fun _ _ _ h => h) (Or.inl ⟨by rfl, ?_⟩) hHeld ?_
  rotate_left
  · intro W9 hSw; (try dsimp only at hSw); go_simp; (try with_reducible rfl)
  simp only [Act.put, List.getElem_toArray, List.getElem_cons_zero, List.getElem_cons_succ, List.setIfInBounds_toArray, List.set_cons_zero, List.set_cons_succ]
  refine wpAnyH_take (i := 6) (v := ?_) rfl (by kernel_rfl) (by kernel_rfl) (by kernel_rfl) (fun _ _ _ h => h) (Or.inl ⟨by rfl, ?_⟩) hHeld ?_
  rotate_left
  · intro W9 hSw; (try dsimp only at hSw); go_simp; (try with_reducible rfl)
  simp only [Act.put, List.getElem_toArray, List.getElem_cons_zero, List.getElem_cons_succ, List.setIfInBounds_toArray, List.set_cons_zero, List.set_cons_succ]
  refine wpAnyH_take (i := 7) (v := ?_) rfl (by kernel_rfl) (by kernel_rfl) (by kernel_rfl) (fun _ _ _ h => h) (Or.inl ⟨by rfl, ?_⟩) hHeld ?_
  rotate_left
  · intro W9 hSw; (try dsimp only at hSw); go_simp; (try with_reducible rfl)
  simp only [Act.put, List.getElem_toArray, List.getElem_cons_zero, List.getElem_cons_succ, List.setIfInBounds_toArray, List.set_cons_zero, List.set_cons_succ]
  refine wpAnyH_take (i := 8) (v := ?_) rfl (by kernel_rfl) (by kernel_rfl) (by kernel_rfl) (fun _ _ _ h => h) (Or.inl ⟨by rfl, ?_⟩) hHeld ?_
  rotate_left
  · intro W9 hSw; (try dsimp only at hSw); go_simp; (try with_reducible rfl)
  simp only [Act.put, List.getElem_toArray, List.getElem_cons_zero, List.getElem_cons_succ, List.setIfInBounds_toArray, List.set_cons_zero, List.set_cons_succ]
  refine wpAnyH_take (i := 11) (v := ?_) rfl (by kernel_rfl) (by kernel_rfl) (by kernel_rfl) (fun _ _ _ h => h) (Or.inl ⟨by rfl, ?_⟩) hHeld ?_
  rotate_left
  · intro W9 hSw; (try dsimp only at hSw); go_simp; (try with_reducible rfl)
  simp only [Act.put, List.getElem_toArray, List.getElem_cons_zero, List.getElem_cons_succ, List.setIfInBounds_toArray, List.set_cons_zero, List.set_cons_succ]
  refine wpAnyH_take (i := 12) (v := ?_) rfl (by kernel_rfl) (by kernel_rfl) (by kernel_rfl) (fun _ _ _ h => h) (Or.inl ⟨by rfl, ?_⟩) hHeld ?_
  rotate_left
  · intro W9 hSw; (try dsimp only at hSw); go_simp; (try with_reducible rfl)
  simp only [Act.put, List.getElem_toArray, List.getElem_cons_zero, List.getElem_cons_succ, List.setIfInBounds_toArray, List.set_cons_zero, List.set_cons_succ]
  refine wpAnyH_take (i := 13) (v := ?_) rfl (by kernel_rfl) (by kernel_rfl) (by kernel_rfl) (fun _ _ _ h => h) (Or.inl ⟨by rfl, ?_⟩) hHeld ?_
  rotate_left
  · intro W9 hSw; (try dsimp only at hSw); go_simp; (try with_reducible rfl)
  simp only [Act.put, List.getElem_toArray, List.getElem_cons_zero, List.getElem_cons_succ, List.setIfInBounds_toArray, List.set_cons_zero, List.set_cons_succ]
  refine wpAnyH_take (i := 14) (v := ?_) rfl (by kernel_rfl) (by kernel_rfl) (by kernel_rfl) (fun _ _ _ h => h) (Or.inl ⟨by rfl, ?_⟩) hHeld ?_
  rotate_left
  · intro W9 hSw; (try dsimp only at hSw); go_simp; (try with_reducible rfl)
  simp only [Act.put, List.getElem_toArray, List.getElem_cons_zero, List.getElem_cons_succ, List.setIfInBounds_toArray, List.set_cons_zero, List.set_cons_succ]
  refine wpAnyH_take (i := 16) (v := ?_) rfl (by kernel_rfl) (by kernel_rfl) (by kernel_rfl) (fun _ _ _ h => h) (Or.inl ⟨by rfl, ?_⟩) hHeld ?_
  rotate_left
  · intro W9 hSw; (try dsimp only at hSw); go_simp; (try with_reducible rfl)
  simp only [Act.put, List.getElem_toArray, List.getElem_cons_zero, List.getElem_cons_succ, List.setIfInBounds_toArray, List.set_cons_zero, List.set_cons_succ]
  refine wpAnyH_take (i := 17) (v := ?_) rfl (by kernel_rfl) (by kernel_rfl) (by kernel_rfl) (fun _ _ _ h => h) (Or.inl ⟨by rfl, ?_⟩) hHeld ?_
  rotate_left
  · intro W9 hSw; (try dsimp only at hSw); go_simp; (try with_reducible rfl)
  simp only [Act.put, List.getElem_toArray, List.getElem_cons_zero, List.getElem_cons_succ, List.setIfInBounds_toArray, List.set_cons_zero, List.set_cons_succ]
  refine wpAnyH_take (i := 18) (v := ?_) rfl (by kernel_rfl) (by kernel_rfl) (by kernel_rfl) (fun _ _ _ h => h) (Or.inl ⟨by rfl, ?_⟩) hHeld ?_
  rotate_left
  · intro W9 hSw; (try dsimp only at hSw); go_simp; (try with_reducible rfl)
  simp only [Act.put, List.getElem_toArray, List.getElem_cons_zero, List.getElem_cons_succ, List.setIfInBounds_toArray, List.set_cons_zero, List.set_cons_succ]
  refine wpAnyH_take (i := 19) (v := ?_) rfl (by kernel_rfl) (by kernel_rfl) (by kernel_rfl) (fun _ _ _ h => h) (Or.inl ⟨by rfl, ?_⟩) hHeld ?_
  rotate_left
  · intro W9 hSw; (try dsimp only at hSw); go_simp; (try with_reducible rfl)
  simp only [Act.put, List.getElem_toArray, List.getElem_cons_zero, List.getElem_cons_succ, List.setIfInBounds_toArray, List.set_cons_zero, List.set_cons_succ]
  refine wpAnyH_ready (rs := [4]) (by kernel_rfl) (by simp) ?_
  refine AllReadyH.cons rfl (fun K hK => ?_) AllReadyH.nil
  go_simp
  go_at_call 45
  refine (hP1.out _).mono ?_
  rintro e w3 ⟨rfl, hb3⟩
  replace hb3 := Lib.hid (undrew hb3)
  refine hK.out _ _ (hC.out _ hb3.out) (fun hHeld2 => ?_)
  clear hK K hHeld
  have hHeld := hHeld2
  clear hHeld2
  refine wpAnyH_ready (rs := [9]) (by kernel_rfl) (by simp) ?_
  refine AllReadyH.cons rfl (fun K hK => ?_) AllReadyH.nil
  go_simp
  go_at_call 45
  refine (hP2.out _).mono ?_
  rintro e w4 ⟨rfl, hb4⟩
  replace hb4 := Lib.hid (hb3.out.trans (hb4.mono hb3.out.size))
  refine hK.out _ _ (hC.out _ hb4.out) (fun hHeld2 => ?_)
  clear hK K hHeld
  have hHeld := hHeld2
  clear hHeld2
  refine wpAnyH_take (i := 10) (v := ?_) rfl (by kernel_rfl) (by kernel_rfl) (by kernel_rfl) (fun _ _ _ h => h) (Or.inl ⟨by rfl, ?_⟩) hHeld ?_
  rotate_left
  · intro W9 hSw; (try dsimp only at hSw); go_simp; (try with_reducible rfl)
  simp only [Act.put, List.getElem_toArray, List.getElem_cons_zero, List.getElem_cons_succ, List.setIfInBounds_toArray, List.set_cons_zero, List.set_cons_succ]
  refine wpAnyH_ready (rs := [15]) (by kernel_rfl) (by simp) ?_
  refine AllReadyH.cons rfl (fun K hK => ?_) AllReadyH.nil
  go_simp
  go_at_call 45
  refine (hP3.out _).mono ?_
  rintro e w5 ⟨rfl, hb5⟩
  replace hb5 := Lib.hid (hb4.out.trans (hb5.mono hb4.out.size))
  refine hK.out _ _ (hC.out _ hb5.out) (fun hHeld2 => ?_)
  clear hK K hHeld
  have hHeld := hHeld2
  clear hHeld2
  refine wpAnyH_ready (rs := [20]) (by kernel_rfl) (by simp) ?_
  refine AllReadyH.cons rfl (fun K hK => ?_) AllReadyH.nil
  go_simp
  go_at_call 45
  refine (hP4.out _).mono ?_
  rintro e w6 ⟨rfl, hb6⟩
  replace hb6 := Lib.hid (hb5.out.trans (hb6.mono hb5.out.size))
  refine hK.out _ _ (hC.out _ hb6.out) (fun hHeld2 => ?_)
  clear hK K hHeld
  have hHeld := hHeld2
  clear hHeld2
  refine wpAnyH_take (i := 21) (v := ?_) rfl (by kernel_rfl) (by kernel_rfl) (by kernel_rfl) (fun _ _ _ h => h) (Or.inl ⟨by rfl, ?_⟩) hHeld ?_
  rotate_left
  · intro W9 hSw; (try dsimp only at hSw); go_simp; (try with_reducible rfl)
  simp only [Act.put, List.getElem_toArray, List.getElem_cons_zero, List.getElem_cons_succ, List.setIfInBounds_toArray, List.set_cons_zero, List.set_cons_succ]
  refine wpAnyH_take (i := 22) (v := ?_) rfl (by kernel_rfl) (by kernel_rfl) (by kernel_rfl) (fun _ _ _ h => h) (Or.inl ⟨by rfl, ?_⟩) hHeld ?_
  rotate_left
  · intro W9 hSw; (try dsimp only at hSw); go_simp; (try with_reducible rfl)
  simp only [Act.put, List.getElem_toArray, List.getElem_cons_zero, List.getElem_cons_succ, List.setIfInBounds_toArray, List.set_cons_zero, List.set_cons_succ]
  refine wpAnyH_take (i := 23) (v := ?_) rfl (by kernel_rfl) (by kernel_rfl) (by kernel_rfl) (fun _ _ _ h => h) (Or.inl ⟨by rfl, ?_⟩) hHeld ?_
  rotate_left
  · intro W9 hSw; (try dsimp only at hSw); go_simp; (try with_reducible rfl)
  simp only [Act.put, List.getElem_toArray, List.getElem_cons_zero, List.getElem_cons_succ, List.setIfInBounds_toArray, List.set_cons_zero, List.set_cons_succ]
  refine wpAnyH_done (by kernel_rfl) ?_ _
  clear hHeld hC hP1 hP2 hP3 hP4
  go_wp2_with fail
  have r1 := (hEx.out.next hbk hb6.out).e1
  have r2 := (hEy.out.next hbk hb6.out).e1
  have hwin : winsW x y ↔ (X < Y ∨ X = Y ∧ y.rating ≤ x.rating) := by unfold winsW; rw [hX.out, hY.out]
  rcases Int.lt_trichotomy X Y with h | h | h
  · have hV : Hid ((whiteI x y a b) = a) := if_pos (hwin.2 (Or.inl h))
    have hV2 : Hid (colC x y = X) := by show colC x y = X; unfold colC; rw [if_pos (hwin.2 (Or.inl h)), hX.out]
    have h1 : (X < Y) = True := eq_true h
    clear hwin h
    go_quiet (fail)
    go_wp2_with fail
    go_ret2
    exact ⟨PC.rt2 (PC.vi hV.out.symm) (PC.vi hV2.out.symm), below_drewN hb6.out _⟩
  · by_cases hrt : y.rating ≤ x.rating
    · have hV : Hid ((whiteI x y a b) = a) := if_pos (hwin.2 (Or.inr ⟨h, hrt⟩))
      have hV2 : Hid (colC x y = X) := by show colC x y = X; unfold colC; rw [if_pos (hwin.2 (Or.inr ⟨h, hrt⟩)), hX.out]
      have h1 : (X < Y) = False := eq_false (by omega)
      have h2 : (X == Y) = true := by rw [beq_iff_eq]; exact h
      have h3 : (y.rating ≤ x.rating) = True := eq_true hrt
      clear hwin h hrt
      go_quiet (fail)
      go_wp2_with fail
      go_ret2
      exact ⟨PC.rt2 (PC.vi hV.out.symm) (PC.vi hV2.out.symm), below_drewN hb6.out _⟩
    · have hV : Hid ((whiteI x y a b) = b) := if_neg (fun hw => (hwin.1 hw).elim (fun h5 => absurd h5 (by omega)) (fun h5 => hrt h5.2))
      have hV2 : Hid (colC x y = Y) := by show colC x y = Y; unfold colC; rw [if_neg (fun hw => (hwin.1 hw).elim (fun h5 => absurd h5 (by omega)) (fun h5 => hrt h5.2)), hY.out]
      have h1 : (X < Y) = False := eq_false (by omega)
      have h2 : (X == Y) = true := by rw [beq_iff_eq]; exact h
      have h3 : (y.rating ≤ x.rating) = False := eq_false hrt
      clear hwin h hrt
      go_quiet (fail)
      go_wp2_with fail
      go_ret2
      exact ⟨PC.rt2 (PC.vi hV.out.symm) (PC.vi hV2.out.symm), below_drewN hb6.out _⟩
  · have hV : Hid ((whiteI x y a b) = b) := if_neg (fun hw => by rcases hwin.1 hw with h5 | h5 <;> omega)
    have hV2 : Hid (colC x y = Y) := by show colC x y = Y; unfold colC; rw [if_neg (fun hw => by rcases hwin.1 hw with h5 | h5 <;> omega), hY.out]
    have h1 : (X < Y) = False := eq_false (by omega)
    have h2 : (X == Y) = false := by rw [beq_eq_false_iff_ne]; omega
    clear hwin h
    go_quiet (fail)
    go_wp2_with fail
    go_ret2
    exact ⟨PC.rt2 (PC.vi hV.out.symm) (PC.vi hV2.out.symm), below_drewN hb6.out _⟩
end Go.Proofs.YtjjjdoealagpcaaDoor
