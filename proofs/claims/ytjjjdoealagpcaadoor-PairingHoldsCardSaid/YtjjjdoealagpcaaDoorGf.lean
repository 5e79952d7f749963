/- Layer 43: what a pair costs: the program's cost, whole. -/
import Derived.Test.YtjjjdoealagpcaaDoorGe
namespace Go.Proofs.YtjjjdoealagpcaaDoor
open Go Go.RowKit
set_option linter.unusedSimpArgs false
set_option linter.unusedVariables false
attribute [local go_sem ↓] Go.wp_at_zero Go.wp_at_succ
set_option maxRecDepth 100000 in
set_option maxHeartbeats 4000000 in
theorem pcost_met (A : Option Addr) (l : List Ent) (c a b : Nat) (x : Ent) (p q : Int) (w : World) (hF : Fld w A l) (hx : l[a]? = some x) (hbl : b < l.length) (hmn : min p q = (a : Int)) (hmx : max p q = (b : Int)) (hl : l.length ≤ 100000) (hxl : x.met.length ≤ 100000) (hm : memI x.met b = true) :
    Calls Tryd.prog 38 #[.slice A l.length c, .int .i64 p, .int .i64 q] w fun e w' => e = .returned (.int .i64 (-1)) ∧ Below w.heap.size w w' := by
  have hal : a < l.length := (List.getElem?_eq_some_iff.1 hx).1
  have haI : (a : Int) < (l.length : Int) := by omega
  have ha0 : (0 : Int) ≤ (a : Int) := Int.natCast_nonneg _
  have hne : ((b : Int) == (l.length : Int)) = false := by rw [beq_eq_false_iff_ne]; omega
  obtain ⟨bk, off, hAt, hbk, hE⟩ := ent8 hF.row (by omega)
  subst hAt
  have e7 := (hE a x hx).e7
  have hC : Hid (Calls Tryd.prog 46 #[.slice x.mA x.met.length x.mc, .int .i64 (b : Int)] w fun e w' => e = .returned (.bool true) ∧ w = w') := by
    have h := pcontains x.mA x.mc x.met b w (hF.met x (List.mem_of_getElem? hx)) hxl
    rw [hm] at h; exact h
  clear hE hx hF hm hbl
  go_enter Tryd.func38, Tryd.ntmps38
  go_wp2_with fail
  go_at_call 46
  refine hC.out.mono ?_
  rintro e w' ⟨rfl, rfl⟩
  go_wp2_with fail
  go_ret
  exact ⟨rfl, Below.refl _ _⟩
set_option maxRecDepth 100000 in
set_option maxHeartbeats 4000000 in
theorem pcost_two (A : Option Addr) (l : List Ent) (c a b : Nat) (x y : Ent) (p q : Int) (w : World) (hF : Fld w A l) (hx : l[a]? = some x) (hy : l[b]? = some y) (nx : numOk x) (ny : numOk y) (hmn : min p q = (a : Int)) (hmx : max p q = (b : Int)) (hl : l.length ≤ 100000) (hxl : x.met.length ≤ 100000) (hm : memI x.met b = false) :
    Calls Tryd.prog 38 #[.slice A l.length c, .int .i64 p, .int .i64 q] w fun e w' => e = .returned (.int .i64 (100 * (x.score - y.score) * (x.score - y.score) + colC x y)) ∧ Below w.heap.size w w' := by
  have hal : a < l.length := (List.getElem?_eq_some_iff.1 hx).1
  have hbl : b < l.length := (List.getElem?_eq_some_iff.1 hy).1
  have haI : (a : Int) < (l.length : Int) := by omega
  have ha0 : (0 : Int) ≤ (a : Int) := Int.natCast_nonneg _
  have hbI : (b : Int) < (l.length : Int) := by omega
  have hb0 : (0 : Int) ≤ (b : Int) := Int.natCast_nonneg _
  have hne : ((b : Int) == (l.length : Int)) = false := by rw [beq_eq_false_iff_ne]; omega
  have hW : Hid (Calls Tryd.prog 35 #[.slice A l.length c, .int .i64 (a : Int), .int .i64 (b : Int)] w fun e w' => e = .returned (.tuple #[.int .i64 (whiteI x y a b), .int .i64 (colC x y)]) ∧ Below w.heap.size w w') := pcolors A l c a b x y w hF.row hx hy nx.1 ny.1 hl
  obtain ⟨bk, off, hAt, hbk, hE⟩ := ent8 hF.row (by omega)
  subst hAt
  have e7 := (hE a x hx).e7
  have hEx := Lib.hid (hE a x hx)
  have hEy := Lib.hid (hE b y hy)
  have hC : Hid (Calls Tryd.prog 46 #[.slice x.mA x.met.length x.mc, .int .i64 (b : Int)] w fun e w' => e = .returned (.bool false) ∧ w = w') := by
    have h := pcontains x.mA x.mc x.met b w (hF.met x (List.mem_of_getElem? hx)) hxl
    rw [hm] at h; exact h
  have hcb := colC_bd x y
  obtain ⟨x0, x1⟩ := nx.2
  obtain ⟨y0, y1⟩ := ny.2
  obtain ⟨D, hD⟩ : ∃ D, x.score - y.score = D := ⟨_, rfl⟩
  have hq := sq_bd (d := D) (by omega) (by omega)
  have g1 : IntKind.i64.wrap (x.score - y.score) = D := by rw [hD]; exact IntWalk.i64_in _ (by omega)
  have g2 : IntKind.i64.wrap (100 * D) = 100 * D := IntWalk.i64_in _ (by omega)
  have g3 : IntKind.i64.wrap (100 * D * D) = 100 * D * D := IntWalk.i64_in _ (by omega)
  rw [hD]
  generalize colC x y = C at *
  generalize whiteI x y a b = V at *
  have g4 : IntKind.i64.wrap (100 * D * D + C) = 100 * D * D + C := IntWalk.i64_in _ (by omega)
  clear hE hx hy hF hm nx ny hD hq hcb
  go_enter Tryd.func38, Tryd.ntmps38
  go_wp2_with fail
  go_at_call 46
  refine hC.out.mono ?_
  rintro e w' ⟨rfl, rfl⟩
  go_wp2_with fail
  go_at_call 35
  refine hW.out.mono ?_
  rintro e w2 ⟨rfl, hb2⟩
  have f2 := (hEx.out.next hbk hb2).e2
  have f3 := (hEy.out.next hbk hb2).e2
  replace hb2 := Lib.hid hb2
  go_wp2_with fail
  go_quiet (fail)
  go_wp2_with fail
  go_ret
  exact ⟨rfl, below_drewN hb2.out _⟩
/-- the cost, whatever the order of the two -/
theorem pcost (A : Option Addr) (l : List Ent) (c a b : Nat) (p q : Int) (w : World) (hF : Fld w A l) (hok : ∀ x ∈ l, numOk x) (hml : ∀ x ∈ l, x.met.length ≤ 100000) (hab : a < b) (hb : b ≤ l.length) (hmn : min p q = (a : Int)) (hmx : max p q = (b : Int)) (hl : l.length ≤ 100000) :
    Calls Tryd.prog 38 #[.slice A l.length c, .int .i64 p, .int .i64 q] w fun e w' => e = .returned (.int .i64 (cst l a b)) ∧ Below w.heap.size w w' := by
  obtain ⟨x, hx⟩ : ∃ x, l[a]? = some x := ⟨_, List.getElem?_eq_getElem (show a < l.length by omega)⟩
  have hxm := List.mem_of_getElem? hx
  by_cases hbn : b = l.length
  · subst hbn
    have hV : cst l a l.length = byeC l x := by unfold cst; rw [hx]; exact if_pos rfl
    rw [hV]
    cases hby : x.bye with
    | true =>
      have hV2 : byeC l x = -1 := by unfold byeC; rw [hby]; rfl
      rw [hV2]
      exact pcost_bye1 A l c a x p q w hF hx hmn hmx hl hby
    | false =>
      have hV2 : byeC l x = 100 * (x.score - lowF l x.score) * (x.score - lowF l x.score) := by unfold byeC; rw [hby]; rfl
      rw [hV2]
      exact pcost_bye2 A l c a x p q w hF hx hok hmn hmx hl hby
  · obtain ⟨y, hy⟩ : ∃ y, l[b]? = some y := ⟨_, List.getElem?_eq_getElem (show b < l.length by omega)⟩
    have hV : cst l a b = pairC x y b := by unfold cst; rw [hx]; show (if b = l.length then _ else _) = _; rw [if_neg hbn, hy]
    rw [hV]
    cases hm : memI x.met b with
    | true =>
      have hV2 : pairC x y b = -1 := by unfold pairC; rw [hm]; rfl
      rw [hV2]
      exact pcost_met A l c a b x p q w hF hx (by omega) hmn hmx hl (hml x hxm) hm
    | false =>
      have hV2 : pairC x y b = 100 * (x.score - y.score) * (x.score - y.score) + colC x y := by unfold pairC; rw [hm]; rfl
      rw [hV2]
      exact pcost_two A l c a b x y p q w hF hx hy (hok x hxm) (hok y (List.mem_of_getElem? hy)) hmn hmx hl (hml x hxm) hm
theorem cst_bd {l : List Ent} (hok : ∀ x ∈ l, numOk x) (a b : Nat) : -1 ≤ cst l a b ∧ cst l a b ≤ 100000006 := by
  unfold cst
  cases hx : l[a]? with
  | none => exact ⟨by dsimp only; omega, by dsimp only; omega⟩
  | some x =>
    have nx := hok x (List.mem_of_getElem? hx)
    dsimp only
    split
    · unfold byeC
      split
      · omega
      · have h := lowF_bd l x.score hok nx.2.1
        have h2 := nx.2
        have := sq_bd (d := x.score - lowF l x.score) (by omega) (by omega)
        omega
    · cases hy : l[b]? with
      | none => exact ⟨by dsimp only; omega, by dsimp only; omega⟩
      | some y =>
        have ny := hok y (List.mem_of_getElem? hy)
        dsimp only
        unfold pairC
        split
        · omega
        · have h1 := nx.2
          have h2 := ny.2
          have := sq_bd (d := x.score - y.score) (by omega) (by omega)
          have := colC_bd x y
          omega
end Go.Proofs.YtjjjdoealagpcaaDoor
