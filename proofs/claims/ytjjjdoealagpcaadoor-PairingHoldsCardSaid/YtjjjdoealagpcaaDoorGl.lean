/- Layer 43: size, pair, Cost, Colors, Bye of the program. -/
import Derived.Test.YtjjjdoealagpcaaDoorGj
namespace Go.Proofs.YtjjjdoealagpcaaDoor
open Go Go.RowKit
set_option linter.unusedSimpArgs false
set_option linter.unusedVariables false
attribute [local go_sem ↓] Go.wp_at_zero Go.wp_at_succ
/-- a field in memory, of moderate size -/
structure FH (w : World) (A : Option Addr) (l : List Ent) (c : Nat) : Prop where
  fld : Fld w A l
  cap : l.length ≤ c
  len : l.length ≤ 100000
  nm : ∀ x ∈ l, x.name.size ≤ maxLen
  ml : ∀ x ∈ l, x.met.length ≤ 100000
theorem FH.next {w w' : World} {A : Option Addr} {l : List Ent} {c : Nat} (h : FH w A l c) (hb : Below w.heap.size w w') : FH w' A l c := ⟨h.fld.next hb, h.cap, h.len, h.nm, h.ml⟩
theorem FH.pvalid {w : World} {A : Option Addr} {l : List Ent} {c : Nat} (h : FH w A l c) : Calls Tryd.prog 10 #[.slice A l.length c] w fun e w' => e = .returned (.bool (fB l)) ∧ Below w.heap.size w w' := Go.Proofs.YtjjjdoealagpcaaDoor.pvalid A l c w h.fld h.cap h.len h.nm h.ml
theorem FH.lvalid {w : World} {A : Option Addr} {l : List Ent} {c : Nat} (h : FH w A l c) : Calls Tryd.prog 11 #[.slice A l.length c] w fun e w' => e = .returned (.bool (fB l)) ∧ Below w.heap.size w w' := Go.Proofs.YtjjjdoealagpcaaDoor.lvalid A l c w h.fld h.len h.nm h.ml
theorem FH.pcost {w : World} {A : Option Addr} {l : List Ent} {c : Nat} (h : FH w A l c) (hv : okF l) {p q : Int} {a b : Nat} (hab : a < b) (hb : b ≤ l.length) (hmn : min p q = (a : Int)) (hmx : max p q = (b : Int)) : Calls Tryd.prog 38 #[.slice A l.length c, .int .i64 p, .int .i64 q] w fun e w' => e = .returned (.int .i64 (cst l a b)) ∧ Below w.heap.size w w' := Go.Proofs.YtjjjdoealagpcaaDoor.pcost A l c a b p q w h.fld hv.num h.ml hab hb hmn hmx h.len
/-- the number of elements, the bye included -/
def szE (l : List Ent) : Nat := l.length + l.length % 2
theorem tmod_two (n : Nat) : (n : Int).tmod 2 = ((n % 2 : Nat) : Int) := rfl
theorem psize (A : Option Addr) (l : List Ent) (c : Nat) (w : World) (hl : l.length ≤ 100000) : Calls Tryd.prog 34 #[.slice A l.length c] w fun e w' => e = .returned (.int .i64 (szE l : Int)) ∧ w = w' := by
  have hV : Hid ((szE l : Int) = (l.length : Int) + ((l.length % 2 : Nat) : Int)) := by show ((l.length + l.length % 2 : Nat) : Int) = _; omega
  generalize l.length = n at *
  have h1 := tmod_two n
  have hr : n % 2 < 2 := Nat.mod_lt _ (by decide)
  generalize n % 2 = r at *
  have h2 : IntKind.i64.wrap (r : Int) = (r : Int) := IntWalk.i64_in _ (by omega)
  have h3 : IntKind.i64.wrap ((n : Int) + (r : Int)) = (n : Int) + (r : Int) := IntWalk.i64_in _ (by omega)
  go_enter Tryd.func34, Tryd.ntmps34
  go_wp2_with fail
  go_ret
  exact ⟨PC.ri hV.out.symm, rfl⟩
/-- the indexes are not two of the field, or the field is not valid -/
def badP (l : List Ent) (p q : Int) : Prop := ¬ okF l ∨ ¬ (0 ≤ p ∧ p < l.length) ∨ ¬ (0 ≤ q ∧ q < l.length) ∨ p = q
theorem in_len {l : List Ent} {p : Int} (hl : l.length ≤ 100000) (h : 0 ≤ p ∧ p < l.length) : inB p 0 ((l.length : Int) - 1) = true := inB_yes h.1 (by omega)
theorem in_len_no {l : List Ent} {p : Int} (hl : l.length ≤ 100000) (h : ¬ (0 ≤ p ∧ p < l.length)) : inB p 0 ((l.length : Int) - 1) = false := inB_no (by omega)
set_option maxRecDepth 100000 in
set_option maxHeartbeats 4000000 in
theorem ppair_bad (A : Option Addr) (l : List Ent) (c : Nat) (p q : Int) (w : World) (hF : FH w A l c) (h : badP l p q) : Calls Tryd.prog 37 #[.slice A l.length c, .int .i64 p, .int .i64 q] w fun e w' => e = .returned (.int .i64 2) ∧ Below w.heap.size w w' := by
  have hl := hF.len
  have gL : IntKind.i64.wrap ((l.length : Int) - 1) = (l.length : Int) - 1 := IntWalk.i64_in _ (by omega)
  have hV := Lib.hid hF.pvalid
  by_cases h1 : okF l
  · rw [fB_true h1] at hV
    by_cases h2 : 0 ≤ p ∧ p < l.length
    · have i1 := in_len hl h2
      by_cases h3 : 0 ≤ q ∧ q < l.length
      · have i2 := in_len hl h3
        have h4 : p = q := (h.resolve_left (fun h => h h1)).elim (fun h => absurd h2 h) (fun h => h.elim (fun h => absurd h3 h) id)
        subst h4
        clear h h2 h3 h1
        go_enter Tryd.func37, Tryd.ntmps37
        go_wp2_with (first | (go_at_call 10; refine hV.out.mono ?_; rintro e w1 ⟨rfl, hb1⟩) | (go_at_call 30; refine (pwithin _ _ _ _).mono ?_; rintro e w' ⟨rfl, rfl⟩))
        go_ret
        exact ⟨rfl, hb1⟩
      · have i2 := in_len_no hl h3
        clear h h2 h3 h1
        go_enter Tryd.func37, Tryd.ntmps37
        go_wp2_with (first | (go_at_call 10; refine hV.out.mono ?_; rintro e w1 ⟨rfl, hb1⟩) | (go_at_call 30; refine (pwithin _ _ _ _).mono ?_; rintro e w' ⟨rfl, rfl⟩))
        go_ret
        exact ⟨rfl, hb1⟩
    · have i1 := in_len_no hl h2
      clear h h2 h1
      go_enter Tryd.func37, Tryd.ntmps37
      go_wp2_with (first | (go_at_call 10; refine hV.out.mono ?_; rintro e w1 ⟨rfl, hb1⟩) | (go_at_call 30; refine (pwithin _ _ _ _).mono ?_; rintro e w' ⟨rfl, rfl⟩))
      go_ret
      exact ⟨rfl, hb1⟩
  · rw [fB_false h1] at hV
    clear h h1
    go_enter Tryd.func37, Tryd.ntmps37
    go_wp2_with (first | (go_at_call 10; refine hV.out.mono ?_; rintro e w1 ⟨rfl, hb1⟩))
    go_ret
    exact ⟨rfl, hb1⟩
/-- the error of a pair of the field -/
def pairE (l : List Ent) (a b : Nat) : Int := if cst l a b = -1 then 9 else 0
set_option maxRecDepth 100000 in
set_option maxHeartbeats 4000000 in
theorem ppair_ok (A : Option Addr) (l : List Ent) (c : Nat) (p q : Int) (a b : Nat) (w : World) (hF : FH w A l c) (hv : okF l) (hab : a < b) (hb : b < l.length) (hmn : min p q = (a : Int)) (hmx : max p q = (b : Int)) : Calls Tryd.prog 37 #[.slice A l.length c, .int .i64 p, .int .i64 q] w fun e w' => e = .returned (.int .i64 (pairE l a b)) ∧ Below w.heap.size w w' := by
  have hl := hF.len
  have gL : IntKind.i64.wrap ((l.length : Int) - 1) = (l.length : Int) - 1 := IntWalk.i64_in _ (by omega)
  have hV := Lib.hid hF.pvalid
  rw [fB_true hv] at hV
  have hC : Hid (∀ W, Below w.heap.size w W → Calls Tryd.prog 38 #[.slice A l.length c, .int .i64 p, .int .i64 q] W fun e w' => e = .returned (.int .i64 (cst l a b)) ∧ Below W.heap.size W w') := fun W h => (hF.next h).pcost hv hab (by omega) hmn hmx
  have i1 := in_len hl (p := p) (by omega)
  have i2 := in_len hl (p := q) (by omega)
  have hpq : (p == q) = false := by rw [beq_eq_false_iff_ne]; omega
  have hE : Hid (pairE l a b = if cst l a b = -1 then 9 else 0) := rfl
  clear hF hv hmn hmx
  generalize pairE l a b = E at *
  generalize cst l a b = K at *
  by_cases hK : K = -1
  · have hEv : Hid (E = 9) := by show E = 9; rw [hE.out, if_pos hK]
    have hK2 : (K == -1) = true := by rw [beq_iff_eq]; exact hK
    clear hK hE
    go_enter Tryd.func37, Tryd.ntmps37
    go_wp2_with (first | (go_at_call 10; refine hV.out.mono ?_; rintro e w1 ⟨rfl, hb1⟩; replace hb1 := Lib.hid hb1) | (go_at_call 30; refine (pwithin _ _ _ _).mono ?_; rintro e w' ⟨rfl, rfl⟩) | (go_at_call 38; refine (hC.out _ hb1.out).mono ?_; rintro e w2 ⟨rfl, hb2⟩))
    go_ret
    exact ⟨PC.ri hEv.out.symm, hb1.out.trans (hb2.mono hb1.out.size)⟩
  · have hEv : Hid (E = 0) := by show E = 0; rw [hE.out, if_neg hK]
    have hK2 : (K == -1) = false := by rw [beq_eq_false_iff_ne]; exact hK
    clear hK hE
    go_enter Tryd.func37, Tryd.ntmps37
    go_wp2_with (first | (go_at_call 10; refine hV.out.mono ?_; rintro e w1 ⟨rfl, hb1⟩; replace hb1 := Lib.hid hb1) | (go_at_call 30; refine (pwithin _ _ _ _).mono ?_; rintro e w' ⟨rfl, rfl⟩) | (go_at_call 38; refine (hC.out _ hb1.out).mono ?_; rintro e w2 ⟨rfl, hb2⟩))
    go_ret
    exact ⟨PC.ri hEv.out.symm, hb1.out.trans (hb2.mono hb1.out.size)⟩
theorem pCost_bad (A : Option Addr) (l : List Ent) (c : Nat) (p q : Int) (w : World) (hF : FH w A l c) (h : badP l p q) : Calls Tryd.prog 16 #[.slice A l.length c, .int .i64 p, .int .i64 q] w fun e w' => e = .returned (.tuple #[.int .i64 0, .int .i64 2]) ∧ Below w.heap.size w w' := by
  have hP := Lib.hid (ppair_bad A l c p q w hF h)
  clear hF h
  go_enter Tryd.func16, Tryd.ntmps16
  go_wp2_with (first | (go_at_call 37; refine hP.out.mono ?_; rintro e w1 ⟨rfl, hb1⟩))
  go_ret2
  exact ⟨rfl, hb1⟩
theorem pColors_bad (A : Option Addr) (l : List Ent) (c : Nat) (p q : Int) (w : World) (hF : FH w A l c) (h : badP l p q) : Calls Tryd.prog 17 #[.slice A l.length c, .int .i64 p, .int .i64 q] w fun e w' => e = .returned (.tuple #[.int .i64 0, .int .i64 2]) ∧ Below w.heap.size w w' := by
  have hP := Lib.hid (ppair_bad A l c p q w hF h)
  clear hF h
  go_enter Tryd.func17, Tryd.ntmps17
  go_wp2_with (first | (go_at_call 37; refine hP.out.mono ?_; rintro e w1 ⟨rfl, hb1⟩))
  go_ret2
  exact ⟨rfl, hb1⟩
theorem pCost_met (A : Option Addr) (l : List Ent) (c : Nat) (p q : Int) (a b : Nat) (w : World) (hF : FH w A l c) (hv : okF l) (hab : a < b) (hb : b < l.length) (hmn : min p q = (a : Int)) (hmx : max p q = (b : Int)) (hm : cst l a b = -1) : Calls Tryd.prog 16 #[.slice A l.length c, .int .i64 p, .int .i64 q] w fun e w' => e = .returned (.tuple #[.int .i64 0, .int .i64 9]) ∧ Below w.heap.size w w' := by
  have hP := Lib.hid (ppair_ok A l c p q a b w hF hv hab hb hmn hmx)
  rw [show pairE l a b = 9 from if_pos hm] at hP
  clear hF hv hmn hmx hm
  go_enter Tryd.func16, Tryd.ntmps16
  go_wp2_with (first | (go_at_call 37; refine hP.out.mono ?_; rintro e w1 ⟨rfl, hb1⟩))
  go_ret2
  exact ⟨rfl, hb1⟩
theorem pColors_met (A : Option Addr) (l : List Ent) (c : Nat) (p q : Int) (a b : Nat) (w : World) (hF : FH w A l c) (hv : okF l) (hab : a < b) (hb : b < l.length) (hmn : min p q = (a : Int)) (hmx : max p q = (b : Int)) (hm : cst l a b = -1) : Calls Tryd.prog 17 #[.slice A l.length c, .int .i64 p, .int .i64 q] w fun e w' => e = .returned (.tuple #[.int .i64 0, .int .i64 9]) ∧ Below w.heap.size w w' := by
  have hP := Lib.hid (ppair_ok A l c p q a b w hF hv hab hb hmn hmx)
  rw [show pairE l a b = 9 from if_pos hm] at hP
  clear hF hv hmn hmx hm
  go_enter Tryd.func17, Tryd.ntmps17
  go_wp2_with (first | (go_at_call 37; refine hP.out.mono ?_; rintro e w1 ⟨rfl, hb1⟩))
  go_ret2
  exact ⟨rfl, hb1⟩
theorem pCost_ok (A : Option Addr) (l : List Ent) (c : Nat) (p q : Int) (a b : Nat) (w : World) (hF : FH w A l c) (hv : okF l) (hab : a < b) (hb : b < l.length) (hmn : min p q = (a : Int)) (hmx : max p q = (b : Int)) (hm : cst l a b ≠ -1) : Calls Tryd.prog 16 #[.slice A l.length c, .int .i64 p, .int .i64 q] w fun e w' => e = .returned (.tuple #[.int .i64 (cst l a b), .int .i64 0]) ∧ Below w.heap.size w w' := by
  have hP := Lib.hid (ppair_ok A l c p q a b w hF hv hab hb hmn hmx)
  rw [show pairE l a b = 0 from if_neg hm] at hP
  have hC : Hid (∀ W, Below w.heap.size w W → Calls Tryd.prog 38 #[.slice A l.length c, .int .i64 p, .int .i64 q] W fun e w' => e = .returned (.int .i64 (cst l a b)) ∧ Below W.heap.size W w') := fun W h => (hF.next h).pcost hv hab (by omega) hmn hmx
  clear hF hv hmn hmx hm
  generalize cst l a b = K at *
  go_enter Tryd.func16, Tryd.ntmps16
  go_wp2_with (first | (go_at_call 37; refine hP.out.mono ?_; rintro e w1 ⟨rfl, hb1⟩; replace hb1 := Lib.hid hb1) | (go_at_call 38; refine (hC.out _ hb1.out).mono ?_; rintro e w2 ⟨rfl, hb2⟩))
  go_ret2
  exact ⟨rfl, hb1.out.trans (hb2.mono hb1.out.size)⟩
theorem pColors_ok (A : Option Addr) (l : List Ent) (c : Nat) (p q : Int) (a b : Nat) (x y : Ent) (w : World) (hF : FH w A l c) (hv : okF l) (hx : l[a]? = some x) (hy : l[b]? = some y) (hab : a < b) (hmn : min p q = (a : Int)) (hmx : max p q = (b : Int)) (hm : cst l a b ≠ -1) : Calls Tryd.prog 17 #[.slice A l.length c, .int .i64 p, .int .i64 q] w fun e w' => e = .returned (.tuple #[.int .i64 (whiteI x y a b), .int .i64 0]) ∧ Below w.heap.size w w' := by
  have hP := Lib.hid (ppair_ok A l c p q a b w hF hv hab (List.getElem?_eq_some_iff.1 hy).1 hmn hmx)
  rw [show pairE l a b = 0 from if_neg hm] at hP
  have hC : Hid (∀ W, Below w.heap.size w W → Calls Tryd.prog 35 #[.slice A l.length c, .int .i64 (a : Int), .int .i64 (b : Int)] W fun e w' => e = .returned (.tuple #[.int .i64 (whiteI x y a b), .int .i64 (colC x y)]) ∧ Below W.heap.size W w') := fun W h => pcolors A l c a b x y W (hF.next h).fld.row hx hy (hv.num x (List.mem_of_getElem? hx)).1 (hv.num y (List.mem_of_getElem? hy)).1 hF.len
  clear hF hv hm hx hy
  generalize whiteI x y a b = V at *
  generalize colC x y = K at *
  go_enter Tryd.func17, Tryd.ntmps17
  go_wp2_with (first | (go_at_call 37; refine hP.out.mono ?_; rintro e w1 ⟨rfl, hb1⟩; replace hb1 := Lib.hid hb1) | (go_at_call 35; refine (hC.out _ hb1.out).mono ?_; rintro e w2 ⟨rfl, hb2⟩))
  go_ret2
  exact ⟨rfl, hb1.out.trans (hb2.mono hb1.out.size)⟩
end Go.Proofs.YtjjjdoealagpcaaDoor
