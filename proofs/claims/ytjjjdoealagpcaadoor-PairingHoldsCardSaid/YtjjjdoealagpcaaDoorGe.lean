/- Layer 43: what a pair costs, or a bye: the program's cost. -/
import Derived.Test.YtjjjdoealagpcaaDoorGd
import Derived.Lib.MinMax
import Derived.LoopTactic
import Derived.Deep.DrawnRows
namespace Go.Proofs.YtjjjdoealagpcaaDoor
open Go Go.RowKit
set_option linter.unusedSimpArgs false
set_option linter.unusedVariables false
attribute [local go_sem ↓] Go.wp_at_zero Go.wp_at_succ
set_option maxRecDepth 100000 in
set_option maxHeartbeats 4000000 in
theorem pindex (A : Option Addr) (c : Nat) (l : List Int) (n : Int) (w : World) (hA : RecAt iEnc 1 w w.heap.size A l) (hl : l.length ≤ 100000) :
    Calls Tryd.prog 49 #[.slice A l.length c, .int .i64 n] w fun e w' => (∃ z : Int, e = .returned (.int .i64 z) ∧ decide (0 ≤ z) = memI l n) ∧ w = w' := by
  have hAH := Lib.hid hA
  clear hA
  go_enter Tryd.func49, Tryd.ntmps49
  go_wp2_with fail
  go_loop [8] (fun i => ∃ k : Nat, k ≤ l.length ∧ i = .int .i64 k ∧ Hid (∀ (j : Nat) (x : Int), j < k → l[j]? = some x → (x == n) = false)) (fun i => l.length - (intOf i).toNat)
  case atStart => exact ⟨0, by omega, rfl, fun j x hj => absurd hj (Nat.not_lt_zero _)⟩
  case round =>
    obtain ⟨k, hk, rfl, hgood⟩ := hrel
    by_cases hkn : k < l.length
    · obtain ⟨x, hx⟩ : ∃ x, l[k]? = some x := ⟨_, List.getElem?_eq_getElem hkn⟩
      obtain ⟨b, off, rfl, hb, m0⟩ := rec1 hAH.out hx
      have hkI : (k : Int) < (l.length : Int) := by omega
      have hk0 : (0 : Int) ≤ (k : Int) := Int.natCast_nonneg _
      clear hb
      have hvv : (n == x) = (x == n) := by rw [Bool.eq_iff_iff, beq_iff_eq, beq_iff_eq]; exact eq_comm
      rcases hv : x == n with _ | _
      · rw [hv] at hvv
        replace hx := Lib.hid hx
        replace hv := Lib.hid hv
        go_wp2_with fail
        go_round
        case rel =>
          refine ⟨k + 1, by omega, by go_num, fun j y hj hy => ?_⟩
          by_cases hjk : j < k
          · exact hgood.out j y hjk hy
          · obtain rfl : j = k := by omega
            rw [hx.out] at hy
            rw [← Option.some.inj hy]; exact hv.out
        case measure => simp [intOf]; omega
      · rw [hv] at hvv
        have hyes := Lib.hid (memI_yes hx hv)
        replace hx := Lib.hid hx
        replace hv := Lib.hid hv
        go_wp2_with fail
        go_ret
        exact ⟨⟨_, rfl, by rw [hyes.out]; exact decide_eq_true hk0⟩, rfl⟩
    · obtain rfl : k = l.length := by omega
      have hno := Lib.hid (memI_no hgood.out)
      go_wp2_with fail
      go_ret
      exact ⟨⟨_, rfl, by rw [hno.out]; rfl⟩, rfl⟩
theorem pcontains (A : Option Addr) (c : Nat) (l : List Int) (n : Int) (w : World) (hA : RecAt iEnc 1 w w.heap.size A l) (hl : l.length ≤ 100000) :
    Calls Tryd.prog 46 #[.slice A l.length c, .int .i64 n] w fun e w' => e = .returned (.bool (memI l n)) ∧ w = w' := by
  go_enter Tryd.func46, Tryd.ntmps46
  go_wp2_with fail
  go_at_call 49
  refine (pindex A c l n w hA hl).mono ?_
  rintro e w' ⟨⟨z, rfl, hz⟩, rfl⟩
  replace hz := Lib.hid hz
  go_wp2_with fail
  go_ret
  exact ⟨PC.rb hz.out, rfl⟩
theorem sq_bd {d : Int} (h1 : -1000 ≤ d) (h2 : d ≤ 1000) : 0 ≤ 100 * d * d ∧ 100 * d * d ≤ 100000000 := by
  have a := Int.mul_nonneg (a := 1000 - d) (b := 1000 + d) (by omega) (by omega)
  have b : 0 ≤ d * d := by
    rcases Int.le_total 0 d with h | h
    · exact Int.mul_nonneg h h
    · have := Int.mul_nonneg (a := -d) (b := -d) (by omega) (by omega)
      rwa [Int.neg_mul_neg] at this
  have e : (1000 - d) * (1000 + d) = 1000000 - d * d := by rw [Int.sub_mul, Int.mul_add, Int.mul_add, Int.mul_comm d 1000]; omega
  have e2 : 100 * d * d = 100 * (d * d) := Int.mul_assoc ..
  omega
/-- the lowest score of a field, and of a number -/
def lowF (l : List Ent) (s : Int) : Int := l.foldl (fun m x => min m x.score) s
/-- the numbers that count are within the limits -/
def numOk (x : Ent) : Prop := gamesOk x ∧ 0 ≤ x.score ∧ x.score ≤ 1000
theorem lowF_bd : ∀ (l : List Ent) (s : Int), (∀ x ∈ l, numOk x) → 0 ≤ s → 0 ≤ lowF l s ∧ lowF l s ≤ s
  | [], s, _, h => ⟨h, Int.le_refl _⟩
  | x :: l, s, hx, h => by
    have h1 := (hx x List.mem_cons_self).2
    have h2 := lowF_bd l (min s x.score) (fun y hy => hx y (List.mem_cons_of_mem _ hy)) (by omega)
    exact ⟨h2.1, Int.le_trans h2.2 (by omega)⟩
theorem lowF_succ {l : List Ent} {s : Int} {k : Nat} {x : Ent} (h : l[k]? = some x) : lowF (l.take (k + 1)) s = min (lowF (l.take k) s) x.score := by
  unfold lowF
  rw [List.take_add_one, h, List.foldl_append]; rfl
def lowK (l : List Ent) (s : Int) (k : Nat) : Int := lowF (l.take k) s
/-- the cost of a pair of which the second one may be the bye (its index the number of entrants); -1: not allowed -/
def byeC (l : List Ent) (x : Ent) : Int := if x.bye then -1 else 100 * (x.score - lowF l x.score) * (x.score - lowF l x.score)
def pairC (x y : Ent) (b : Nat) : Int := if memI x.met b then -1 else 100 * (x.score - y.score) * (x.score - y.score) + colC x y
def cst (l : List Ent) (a b : Nat) : Int := match l[a]? with
  | none => -1
  | some x => if b = l.length then byeC l x else match l[b]? with
    | none => -1
    | some y => pairC x y b
set_option maxRecDepth 100000 in
set_option maxHeartbeats 4000000 in
theorem pcost_bye1 (A : Option Addr) (l : List Ent) (c a : Nat) (x : Ent) (p q : Int) (w : World) (hF : Fld w A l) (hx : l[a]? = some x) (hmn : min p q = (a : Int)) (hmx : max p q = (l.length : Int)) (hl : l.length ≤ 100000) (hby : x.bye = true) :
    Calls Tryd.prog 38 #[.slice A l.length c, .int .i64 p, .int .i64 q] w fun e w' => e = .returned (.int .i64 (-1)) ∧ Below w.heap.size w w' := by
  have hal : a < l.length := (List.getElem?_eq_some_iff.1 hx).1
  have haI : (a : Int) < (l.length : Int) := by omega
  have ha0 : (0 : Int) ≤ (a : Int) := Int.natCast_nonneg _
  obtain ⟨bk, off, hAt, hbk, hE⟩ := ent8 hF.row (by omega)
  subst hAt
  have e6 := (hE a x hx).e6
  rw [hby] at e6
  clear hE hx hF hby
  go_enter Tryd.func38, Tryd.ntmps38
  go_wp2_with fail
  go_ret
  exact ⟨rfl, Below.refl _ _⟩
set_option maxRecDepth 100000 in
set_option maxHeartbeats 4000000 in
theorem pcost_bye2 (A : Option Addr) (l : List Ent) (c a : Nat) (x : Ent) (p q : Int) (w : World) (hF : Fld w A l) (hx : l[a]? = some x) (hok : ∀ x ∈ l, numOk x) (hmn : min p q = (a : Int)) (hmx : max p q = (l.length : Int)) (hl : l.length ≤ 100000) (hby : x.bye = false) :
    Calls Tryd.prog 38 #[.slice A l.length c, .int .i64 p, .int .i64 q] w fun e w' => e = .returned (.int .i64 (100 * (x.score - lowF l x.score) * (x.score - lowF l x.score))) ∧ Below w.heap.size w w' := by
  have hal : a < l.length := (List.getElem?_eq_some_iff.1 hx).1
  have haI : (a : Int) < (l.length : Int) := by omega
  have ha0 : (0 : Int) ≤ (a : Int) := Int.natCast_nonneg _
  obtain ⟨bk, off, hAt, hbk, hE⟩ := ent8 hF.row (by omega)
  subst hAt
  have hEx := Lib.hid (hE a x hx)
  have hEH := Lib.hid hE
  have e6 := hEx.out.e6
  have e2 := hEx.out.e2
  rw [hby] at e6
  have hsx := (hok x (List.mem_of_getElem? hx)).2
  obtain ⟨s, hs⟩ : ∃ s, x.score = s := ⟨_, rfl⟩
  rw [hs] at hsx e2 ⊢
  obtain ⟨s0, s1⟩ := hsx
  have hbdk : ∀ k, 0 ≤ lowK l s k ∧ lowK l s k ≤ s := fun k => lowF_bd _ s (fun y hy => hok y (List.mem_of_mem_take hy)) s0
  have hbdH := Lib.hid hbdk
  have hokH := Lib.hid hok
  have hsH := Lib.hid hs
  clear hE hx hF hby hok hs hbdk
  go_enter Tryd.func38, Tryd.ntmps38
  go_wp2_with fail
  go_loopw [7, 35] (fun m i wr => ∃ k : Nat, k ≤ l.length ∧ i = .int .i64 k ∧ m = .int .i64 (lowK l s k) ∧ Below w.heap.size w wr) (fun _ i _ => l.length - (intOf i).toNat)
  case atStart => exact ⟨0, by omega, rfl, rfl, Below.refl _ _⟩
  case round =>
    obtain ⟨k, hk, rfl, rfl, hb⟩ := hrel
    have hbH := Lib.hid hb
    clear hb
    by_cases hkn : k < l.length
    · obtain ⟨y, hy⟩ : ∃ y, l[k]? = some y := ⟨_, List.getElem?_eq_getElem hkn⟩
      have hEy := (hEH.out k y hy).next hbk hbH.out
      have f0 := hEy.e0
      have f1 := hEy.e1
      have f2 := hEy.e2
      have f3 := hEy.e3
      have f4 := hEy.e4
      have f5 := hEy.e5
      have f6 := hEy.e6
      have f7 := hEy.e7
      have hkI : (k : Int) < (l.length : Int) := by omega
      have hk0 : (0 : Int) ≤ (k : Int) := Int.natCast_nonneg _
      have hsu : lowK l s (k + 1) = min (lowK l s k) y.score := lowF_succ hy
      replace hsu := Lib.hid hsu
      clear hEy hy
      generalize hL : lowK l s k = L
      rw [hL] at hsu
      replace hL := Lib.hid hL
      go_wp2_with fail
      go_roundw
      case rel => exact ⟨k + 1, by omega, by go_num, by rw [hsu.out], hbH.out.alloc hbH.out.size _⟩
      case measure => simp [intOf]; omega
    · obtain rfl : k = l.length := by omega
      have hEy := hEx.out.next hbk hbH.out
      have f2 := hEy.e2
      rw [hsH.out] at f2
      have hbd := hbdH.out l.length
      have hLe : lowK l s l.length = lowF l s := by unfold lowK; rw [List.take_length]
      generalize lowK l s l.length = L at *
      obtain ⟨L0, L1⟩ := hbd
      obtain ⟨D, hD⟩ : ∃ D, s - L = D := ⟨_, rfl⟩
      have hq := sq_bd (d := D) (by omega) (by omega)
      have hV : Hid (100 * (s - lowF l s) * (s - lowF l s) = 100 * D * D) := by show _ = _; rw [← hLe, hD]
      have g1 : IntKind.i64.wrap (s - L) = D := by rw [hD]; exact IntWalk.i64_in _ (by omega)
      have g2 : IntKind.i64.wrap (100 * D) = 100 * D := IntWalk.i64_in _ (by omega)
      have g3 : IntKind.i64.wrap (100 * D * D) = 100 * D * D := IntWalk.i64_in _ (by omega)
      clear hLe hD hEy hq
      go_wp2_with fail
      go_quiet (fail)
      go_wp2_with fail
      go_ret
      exact ⟨PC.ri hV.out.symm, below_drewN hbH.out _⟩
end Go.Proofs.YtjjjdoealagpcaaDoor
