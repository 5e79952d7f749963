/- Layer 35: a move is laid at its place in a tree that is read. -/
import Derived.Test.YteaclphankckiaaTp
import Derived.StillTailTactics
import Derived.Lib.MinMax
import Derived.Deep.DrawnRows
import Derived.Deep.DeepCutAuto
import Derived.Deep.CutRange
namespace Go.Proofs.Yteaclphankckiaa
open Go Go.RowKit
set_option linter.unusedSimpArgs false
set_option linter.unusedVariables false

theorem PL.drewN {w0 w : World} {b0 Bp base n : Nat} {A : Option Addr} {c : Nat} {L : List Nat} {S : Nat → List Mv} (h : PL w0 w b0 Bp base n A c L S) (k : Nat) : PL w0 (w.drewN k) b0 Bp base n A c L S :=
  ⟨h.cell, h.fr, h.own, fun j b hj => (h.sets j b hj), h.apart, h.lt, below_drewN h.below k⟩
/-- the four cells of a node in a block -/
structure Qd (w : World) (B : Nat) (x : Nd) : Prop where
  c0 : w.cell? ⟨B, 0, none⟩ = some (.int .i64 x.1)
  c1 : w.cell? ⟨B, 1, none⟩ = some (.int .i64 x.2.1)
  c2 : w.cell? ⟨B, 2, none⟩ = some (.int .i64 x.2.2.1)
  c3 : w.cell? ⟨B, 3, none⟩ = some (.int .i8 x.2.2.2)
  lt : B < w.heap.size
theorem Qd.new (w : World) (x : Nd) (t : TypeId) : Qd (w.alloc (.cells #[.int .i64 x.1, .int .i64 x.2.1, .int .i64 x.2.2.1, .int .i8 x.2.2.2] t)) w.heap.size x := by
  have h2 := heap_alloc_new w (.cells #[.int .i64 x.1, .int .i64 x.2.1, .int .i64 x.2.2.1, .int .i8 x.2.2.2] t)
  refine ⟨?_, ?_, ?_, ?_, by simp⟩ <;> (rw [cell_of_row _ _ _ _ _ _ h2]; rfl)
theorem Qd.next {w w' : World} {B : Nat} {x : Nd} (h : Qd w B x) (hb : Below w.heap.size w w') : Qd w' B x :=
  ⟨(hb.cell (p := ⟨B, 0, none⟩) h.lt).trans h.c0, (hb.cell (p := ⟨B, 1, none⟩) h.lt).trans h.c1, (hb.cell (p := ⟨B, 2, none⟩) h.lt).trans h.c2, (hb.cell (p := ⟨B, 3, none⟩) h.lt).trans h.c3, Nat.lt_of_lt_of_le h.lt hb.size⟩
theorem Qd.drewN {w : World} {B : Nat} {x : Nd} (h : Qd w B x) (n : Nat) : Qd (w.drewN n) B x := ⟨h.c0, h.c1, h.c2, h.c3, h.lt⟩
theorem Qd.of_block {w w' : World} {B : Nat} {x : Nd} (h : Qd w B x) (hb : w'.heap[B]? = w.heap[B]?) (hs : w.heap.size ≤ w'.heap.size) : Qd w' B x :=
  ⟨(World.cell?_of_block hb).trans h.c0, (World.cell?_of_block hb).trans h.c1, (World.cell?_of_block hb).trans h.c2, (World.cell?_of_block hb).trans h.c3, Nat.lt_of_lt_of_le h.lt hs⟩
theorem Qd.far {w : World} {B : Nat} {x : Nd} (h : Qd w B x) {a : Addr} (ha : a.block ≠ B) (v : Value) : Qd (w.setCell a v) B x :=
  h.of_block (Below.heap_setCell _ _ _ _ (fun e => by first | exact ha e | exact ha e.symm)) (Nat.le_of_eq (nblk_set _ _ _).symm)
theorem own_cap0 {α : Type} {f : α → List Value} {size base : Nat} {e : TypeId} {w : World} {A : Option Addr} {c : Nat} {l : List α} (h : Own1 f size base e w A c l) : l.length ≤ c := by
  rcases Nat.eq_zero_or_pos l.length with h0 | h0
  · omega
  · exact own_cap h h0
/-- what add returns, and the place behind it -/
def AddP (w0 : World) (b0 Bp base : Nat) (r : List Nd) (x : Nd) (e : Ending) (w' : World) : Prop :=
  e = .returned (.bool (fitB r x)) ∧ (fitB r x = true → Plc w0 w' b0 Bp base (x :: r)) ∧ Below b0 w0 w'
theorem plyB_fit {r : List Nd} {x : Nd} (h : plyB r x = false) : fitB r x = false := by unfold fitB; rw [h]; rfl
theorem AddP.no {w0 : World} {b0 Bp base : Nat} {r : List Nd} {x : Nd} {w' : World} (h : fitB r x = false) (hb : Below b0 w0 w') : AddP w0 b0 Bp base r x (.returned (.bool false)) w' :=
  ⟨by rw [h], (fun h2 => by rw [h] at h2; cases h2), hb⟩
theorem AddP.yes {w0 : World} {b0 Bp base : Nat} {r : List Nd} {x : Nd} {w' : World} (h : fitB r x = true) (hP : Plc w0 w' b0 Bp base (x :: r)) (hb : Below b0 w0 w') : AddP w0 b0 Bp base r x (.returned (.bool true)) w' :=
  ⟨by rw [h], fun _ => hP, hb⟩
set_option maxRecDepth 100000 in
set_option maxHeartbeats 2000000 in
theorem padd_ply (w0 w : World) (b0 Bp base : Nat) (r : List Nd) (x : Nd) (hP : Plc w0 w b0 Bp base r) (hr : top r ≤ 100000) (hb : plyB r x = false) :
    Calls Try.prog 42 #[.pointer (some ⟨Bp, 0, none⟩), .agg #[.int .i64 x.1, .int .i64 x.2.1, .int .i64 x.2.2.1, .int .i8 x.2.2.2]] w (AddP w0 b0 Bp base r x) := by
  obtain ⟨A, c, L, hLr, hP⟩ := hP
  have hfb := Lib.hid (plyB_fit hb)
  have hor : x.1 < 1 ∨ 1 ≤ x.1 ∧ (L.length : Int) + 1 < x.1 := by
    have h : ¬ (1 ≤ x.1 ∧ x.1 ≤ top r + 1) := of_decide_eq_false hb
    omega
  have hQ := Lib.hid (Qd.new w x 59)
  have hP1 := Lib.hid (hP.next ((Below.refl _ _).alloc (Nat.le_refl _) (.cells #[.int .i64 x.1, .int .i64 x.2.1, .int .i64 x.2.2.1, .int .i8 x.2.2.2] 59)))
  have hL1 : L.length ≤ 100000 := by omega
  have hfr := Lib.hid hP1.out.below
  clear hP hb hLr hr
  go_enter Try.func42, Try.ntmps42
  go_upto_region 1 with fail
  generalize w.alloc (.cells #[.int .i64 x.1, .int .i64 x.2.1, .int .i64 x.2.2.1, .int .i8 x.2.2.2] 59) = w1 at *
  generalize w.heap.size = B at *
  have c0 := hQ.out.c0
  have q0 := hP1.out.cell
  have hw1 : IntKind.i64.wrap ((L.length : Int) + 1) = (L.length : Int) + 1 := IntWalk.i64_in _ (by omega)
  obtain ⟨p, m⟩ := x
  rcases hor with i1 | ⟨i1, i2⟩
  · have i1' : decide (p < 1) = true := decide_eq_true i1
    go_quiet (fail)
    go_wp2_with fail
    go_ret
    exact AddP.no hfb.out (below_drewN hfr.out _)
  · have i1' : decide (p < 1) = false := decide_eq_false (by show ¬ _; have : (1 : Int) ≤ p := i1; omega)
    have i2' : decide ((L.length : Int) + 1 < p) = true := decide_eq_true i2
    go_quiet (fail)
    go_wp2_with fail
    go_ret
    exact AddP.no hfb.out (below_drewN hfr.out _)
theorem PL.cell1 {w0 w : World} {b0 Bp base n : Nat} {A : Option Addr} {c : Nat} {L : List Nat} {S : Nat → List Mv} (h : PL w0 w b0 Bp base n A c L S) {j b : Nat} (hj : L[j]? = some b) : ∃ g, A = some ⟨g, 0, none⟩ ∧ w.cell? ⟨g, j, none⟩ = some (.map (some b)) := by
  have hl : j < L.length := (List.getElem?_eq_some_iff.1 hj).1
  rcases h.own.2 with ⟨_, h1⟩ | ⟨g, cap, cur, hv, hb, _⟩
  · omega
  · simp only [Value.slice.injEq] at hv
    obtain ⟨rfl, _, rfl⟩ := hv
    refine ⟨g, rfl, ?_⟩
    have h2 := World.ownsRow.cellAt h.own j (by omega)
    rw [h2, flat1 (f := bEnc) (g := fun b => .map (some b)) (fun _ => rfl), List.getElem?_map, hj]; rfl
theorem recs_b (w : World) (b : Nat) (t : TypeId) {k : Nat} (hk : k = w.heap.size) : RecAt bEnc 1 (w.alloc (.cells #[.map (some b)] t)) (w.alloc (.cells #[.map (some b)] t)).heap.size (some ⟨k, 0, none⟩) [b] := by subst hk; exact recs_one (g := fun b => .map (some b)) (fun _ => rfl) w b t
set_option maxRecDepth 100000 in
set_option maxHeartbeats 4000000 in
theorem padd_in (w0 w : World) (b0 Bp base : Nat) (r : List Nd) (x : Nd) (hP : Plc w0 w b0 Bp base r) (hr : top r ≤ 100000) (hrl : r.length ≤ 100000) (hw : wfM x.2) (hb : plyB r x = true) :
    Calls Try.prog 42 #[.pointer (some ⟨Bp, 0, none⟩), .agg #[.int .i64 x.1, .int .i64 x.2.1, .int .i64 x.2.2.1, .int .i8 x.2.2.2]] w (AddP w0 b0 Bp base r x) := by
  obtain ⟨A, c, L, hLr, hP⟩ := hP
  obtain ⟨p, m⟩ := x
  obtain ⟨h1, h2⟩ : 1 ≤ p ∧ p ≤ top r + 1 := of_decide_eq_true hb
  obtain ⟨j, hj⟩ : ∃ j : Nat, p = (j : Int) + 1 := ⟨(p - 1).toNat, by omega⟩
  subst hj
  have hjL : j ≤ L.length := by omega
  have hfit : Hid (fitB r ((j : Int) + 1, m) = !(decide (m ∈ sibs r ((j : Int) + 1)))) := by
    show _ = _
    unfold fitB
    rw [hb, Bool.true_and]
    congr 1
    rw [Bool.eq_iff_iff, List.contains_iff_mem, decide_eq_true_iff]
  have hQ := Lib.hid (Qd.new w ((j : Int) + 1, m) 59)
  have hP1 := Lib.hid (hP.next ((Below.refl _ _).alloc (Nat.le_refl _) (.cells #[.int .i64 ((j : Int) + 1), .int .i64 m.1, .int .i64 m.2.1, .int .i8 m.2.2] 59)))
  have hBp : Bp < w.heap.size := by have := hP.lt; omega
  have hAB0 : Hid ((Value.slice A L.length c).ownBlock ≠ some w.heap.size) := fun e => by have := (World.ownsRow.lt hP.own _ e).2; omega
  have hL1 : L.length ≤ 100000 := by omega
  have htop := Lib.hid (show (L.length : Int) = top r from hLr)
  have hwH := Lib.hid hw
  clear hP hb hr h1 h2 hLr hw
  go_enter Try.func42, Try.ntmps42
  go_upto_region 1 with fail
  generalize w.alloc (.cells #[.int .i64 ((j : Int) + 1), .int .i64 m.1, .int .i64 m.2.1, .int .i8 m.2.2] 59) = w1 at *
  generalize w.heap.size = B at *
  have c0 := hQ.out.c0
  have q0 := hP1.out.cell
  have hw1 : IntKind.i64.wrap ((L.length : Int) + 1) = (L.length : Int) + 1 := IntWalk.i64_in _ (by omega)
  have i1' : decide ((j : Int) + 1 < 1) = false := decide_eq_false (by omega)
  have i2' : decide ((L.length : Int) + 1 < (j : Int) + 1) = false := decide_eq_false (by omega)
  go_quiet (fail)
  rename_i nq
  clear i1' i2' hw1
  have hP2 := Lib.hid (hP1.out.drewN nq)
  have hQ2 := Lib.hid (hQ.out.drewN nq)
  clear c0 q0 hP1 hQ
  generalize World.drewN w1 nq = w2 at *
  have c0 := hQ2.out.c0
  have q0 := hP2.out.cell
  have f0 : w2.drew.frozen? ⟨Bp, 0, none⟩ = false := hP2.out.fr
  have q0' : w2.drew.cell? ⟨Bp, 0, none⟩ = some (.slice A L.length c) := hP2.out.cell
  obtain ⟨k, hk⟩ : ∃ k, (if j < L.length then j + 1 else L.length) = k := ⟨_, rfl⟩
  have hkL : k ≤ L.length := by rw [← hk]; split <;> omega
  have hkj : k ≤ j + 1 := by rw [← hk]; split <;> omega
  have hmin : min (L.length : Int) ((j : Int) + 1) = (k : Int) := by rw [← hk]; split <;> omega
  have hkc : (k : Int) ≤ (c : Int) := by have := own_cap0 hP2.out.own; omega
  have hk0 : (0 : Int) ≤ (k : Int) := Int.natCast_nonneg _
  have hkt : (k : Int).toNat = k := Int.toNat_natCast k
  replace hk := Lib.hid hk
  go_upto_region 3 with fail
  go_still_tail 16, (by kernel_rfl)
  change wpList _ _ _ _ _ (World.drew _)
  go_upto_region 4 with fail
  have hP3 := Lib.hid (hP2.out.cut hkL).drew
  have hQ3' : Hid (Qd (w2.setCell ⟨Bp, 0, none⟩ (.slice A k c)).drew B ((j : Int) + 1, m)) := ((hQ2.out.far (a := ⟨Bp, 0, none⟩) (by show Bp ≠ B; omega) (.slice A k c)).drewN 1)
  have hkl : Hid ((L.take k).length = k) := by show _ = _; rw [List.length_take, Nat.min_eq_left hkL]
  clear c0 q0 f0 q0' hmin hkc hkt hP2 hQ2
  generalize (w2.setCell ⟨Bp, 0, none⟩ (.slice A k c)).drew = w3 at *
  have c0 : w3.cell? ⟨B, 0, none⟩ = some (.int .i64 ((j : Int) + 1)) := hQ3'.out.c0
  have q0 : w3.cell? ⟨Bp, 0, none⟩ = some (.slice A k c) := by have h := hP3.out.cell; rw [hkl.out] at h; exact h
  by_cases hjl : j < L.length
  · have hkj1 : k = j + 1 := by rw [← hk.out, if_pos hjl]
    have i1 : decide ((k : Int) < (j : Int) + 1) = false := decide_eq_false (by omega)
    replace hkj1 := Lib.hid hkj1
    go_quiet (fail)
    rename_i nq
    clear i1
    have hP4 := Lib.hid (hP3.out.drewN nq)
    have hQ4 := Lib.hid (hQ3'.out.drewN nq)
    clear c0 q0 hP3 hQ3'
    generalize World.drewN w3 nq = w4 at *
    --TAILS
    have hlast : Hid ((L.take k).length = j + 1) := by show _ = _; rw [hkl.out, hkj1.out]
    generalize L.take k = L2 at *
    obtain ⟨b, hb⟩ : ∃ b, (L2)[j]? = some b := ⟨_, List.getElem?_eq_getElem (by rw [hlast.out]; omega)⟩
    obtain ⟨g, rfl, m0⟩ := hP4.out.cell1 hb
    have hB6 := Lib.hid hP4.out.below
    have c0 : w4.cell? ⟨B, 0, none⟩ = some (.int .i64 ((j : Int) + 1)) := hQ4.out.c0
    have q0 : w4.cell? ⟨Bp, 0, none⟩ = some (.slice (some ⟨g, 0, none⟩) (j + 1) c) := by have h := hP4.out.cell; rw [hlast.out] at h; exact h
    have hwj : IntKind.i64.wrap ((j : Int) + 1 - 1) = (j : Int) := by rw [Int.add_sub_cancel]; exact IntWalk.i64_in _ (by omega)
    have hjj : (j : Int) < ((j + 1 : Nat) : Int) := by omega
    have hj0 : (0 : Int) ≤ (j : Int) := Int.natCast_nonneg _
    go_upto_region 6 with fail
    go_quiet (fail)
    rename_i nq
    have hP6 := Lib.hid (hP4.out.drewN nq)
    have hQ6 := Lib.hid (hQ4.out.drewN nq)
    clear c0 q0 m0 hwj hP4 hQ4 hB6
    generalize World.drewN w4 nq = w6 at *
    have hM : Hid (MSet w6 b r.length (sibs r ((j : Int) + 1))) := (hP6.out.sets j b hb).1
    have c1 : w6.cell? ⟨B, 1, none⟩ = some (.int .i64 m.1) := hQ6.out.c1
    have c2 : w6.cell? ⟨B, 2, none⟩ = some (.int .i64 m.2.1) := hQ6.out.c2
    have c3 : w6.cell? ⟨B, 3, none⟩ = some (.int .i8 m.2.2) := hQ6.out.c3
    have hlk : (Instr.lookup 94 (.map (some b)) (.agg #[.int .i64 m.1, .int .i64 m.2.1, .int .i8 m.2.2]) false).run Try.prog w6 = .ok (.bool (decide (m ∈ sibs r ((j : Int) + 1)))) w6 := hM.out.lookup hwH.out
    have hB6 := Lib.hid hP6.out.below
    cases hmem : decide (m ∈ sibs r ((j : Int) + 1)) with
    | true =>
      rw [hmem] at hlk
      have hf0 : Hid (fitB r ((j : Int) + 1, m) = false) := by show _ = _; rw [hfit.out, hmem]; rfl
      clear hmem
      go_wp2_with fail
      go_ret
      exact AddP.no hf0.out hB6.out
    | false =>
      rw [hmem] at hlk
      have hf1 : Hid (fitB r ((j : Int) + 1, m) = true) := by show _ = _; rw [hfit.out, hmem]; rfl
      clear hmem
      obtain ⟨w7, hup, hM7, hg7⟩ := hM.out.update hwH.out (by unfold maxLen; omega)
      have hup' : (Instr.mapUpdate 94 (.map (some b)) (.agg #[.int .i64 m.1, .int .i64 m.2.1, .int .i8 m.2.2]) (.bool true)).run Try.prog w6 = .ok () w7 := hup
      have hP7 := Lib.hid (hP6.out.put hb hM7 hg7)
      have hend : Hid (Plc w0 w7 b0 Bp base (((j : Int) + 1, m) :: r)) := by
        refine ⟨_, _, _, ?_, hP7.out.congr fun i hi => ?_⟩
        · rw [hlast.out]
          show ((j + 1 : Nat) : Int) = (j : Int) + 1
          omega
        · rw [hlast.out] at hi
          by_cases e : i = j
          · subst e
            show (if i = i then _ else _) = _
            rw [if_pos rfl]
            exact (sibs_same (x := ((i : Int) + 1, m))).symm
          · show (if i = j then _ else sibs r ((i : Int) + 1)) = _
            rw [if_neg e]
            exact (sibs_low (x := ((j : Int) + 1, m)) (by show (i : Int) + 1 < (j : Int) + 1; omega)).symm
      have hB7 := Lib.hid hP7.out.below
      clear hup hM7 hg7 hP7 hM hP6
      go_wp2_with fail
      go_ret
      exact AddP.yes hf1.out hend.out hB7.out
  · have hkj1 : k = j := by rw [← hk.out, if_neg hjl]; omega
    have hjL2 : Hid (j = L.length) := by show _ = _; omega
    have i1 : decide ((k : Int) < (j : Int) + 1) = true := decide_eq_true (by omega)
    replace hkj1 := Lib.hid hkj1
    go_quiet (fail)
    rename_i nq
    clear i1
    have hP4 := Lib.hid (hP3.out.drewN nq)
    have hQ4 := Lib.hid (hQ3'.out.drewN nq)
    clear c0 q0 hP3 hQ3'
    generalize World.drewN w3 nq = w4 at *
    have hl2 : Hid ((L.take k).length = j) := by show _ = _; rw [hkl.out, hkj1.out]
    have hsame : Hid (k = j) := hkj1.out
    generalize L.take k = L2 at *
    have q0 : w4.cell? ⟨Bp, 0, none⟩ = some (.slice A L2.length c) := hP4.out.cell
    have hmm := @run_makeMap Try.prog
    have hL2l : L2.length ≤ 100000 := by have := hl2.out; omega
    have hPn := Lib.hid (hP4.out.next (((Below.refl _ _).alloc (Nat.le_refl _) (.map #[] 0)).alloc (by simp) (.cells #[.map (some w4.heap.size)] 94)))
    have hfd : w4.frozen? ⟨Bp, 0, none⟩ = false := hP4.out.fr
    have hBw : Bp < w4.heap.size := by have := hP4.out.lt; omega
    have hQB : B < w4.heap.size := hQ4.out.lt
    have hAB : Hid ((Value.slice A L2.length c).ownBlock ≠ some B) := by show _ ≠ _; rw [ownBlock_len _ _ L.length]; exact hAB0.out
    obtain ⟨L3, hL3⟩ : ∃ L3, L2 ++ [w4.heap.size] = L3 := ⟨_, rfl⟩
    replace hL3 := Lib.hid hL3
    go_upto_region 6 with (at_builtin; refine wpList_append_recs mapRow bEnc_len bEnc_one rfl _ _ rfl base A c L2 rfl hPn.out.own _ 1 [w4.heap.size] rfl (recs_b _ _ _ (by simp)) (by simp only [List.length_cons, List.length_nil]; omega) hPn.out.lt.2.2 ?_; intro A5 c5 w5 hown5 hg5 hat5; have hP5 := Lib.hid (hP4.out.push _ hown5 hg5 hat5); rw [hL3.out] at hP5 hown5 ⊢; obtain ⟨x6, x5⟩ := hP4.out.push_cell _ hg5; have hQ5 := Lib.hid (hQ4.out.of_block (hP4.out.push_old _ hg5 hQB (.inr hAB.out)) (Nat.le_trans (by simp; omega) hg5.size)); clear hown5 hg5 hat5)
    have hl3 : Hid (L3.length = j + 1) := by show _ = _; rw [← hL3.out, List.length_append, hl2.out]; rfl
    have hP7 : Hid (PL w0 (w5.setCell ⟨Bp, 0, none⟩ (.slice A5 L3.length c5)) b0 Bp base r.length A5 c5 L3 (fun i => sibs r ((i : Int) + 1))) := by
      refine hP5.out.congr fun i hi => ?_
      rw [hl3.out] at hi
      show (if i = L2.length then [] else sibs r ((i : Int) + 1)) = _
      by_cases e : i = L2.length
      · rw [if_pos e]
        exact (sibs_high (by have h1 := htop.out; have h2 := hl2.out; have h3 := hjL2.out; omega)).symm
      · rw [if_neg e]
    have hQ7 := Lib.hid (hQ5.out.far (a := ⟨Bp, 0, none⟩) (by show Bp ≠ B; omega) (.slice A5 L3.length c5))
    clear x5 x6 q0 hfd hmm hPn hP4 hQ4 hP5 hQ5
    generalize w5.setCell ⟨Bp, 0, none⟩ (.slice A5 L3.length c5) = w8 at *
    obtain ⟨b, hb⟩ : ∃ b, (L3)[j]? = some b := ⟨_, List.getElem?_eq_getElem (by rw [hl3.out]; omega)⟩
    obtain ⟨g, rfl, m0⟩ := hP7.out.cell1 hb
    have hB6 := Lib.hid hP7.out.below
    have c0 : w8.cell? ⟨B, 0, none⟩ = some (.int .i64 ((j : Int) + 1)) := hQ7.out.c0
    have q0 : w8.cell? ⟨Bp, 0, none⟩ = some (.slice (some ⟨g, 0, none⟩) (j + 1) c5) := by have h := hP7.out.cell; rw [hl3.out] at h; exact h
    have hwj : IntKind.i64.wrap ((j : Int) + 1 - 1) = (j : Int) := by rw [Int.add_sub_cancel]; exact IntWalk.i64_in _ (by omega)
    have hjj : (j : Int) < ((j + 1 : Nat) : Int) := by omega
    have hj0 : (0 : Int) ≤ (j : Int) := Int.natCast_nonneg _
    go_upto_region 6 with fail
    go_quiet (fail)
    rename_i nq
    have hP6 := Lib.hid (hP7.out.drewN nq)
    have hQ6 := Lib.hid (hQ7.out.drewN nq)
    clear c0 q0 m0 hwj hP7 hQ7 hB6
    generalize World.drewN w8 nq = w6 at *
    have hM : Hid (MSet w6 b r.length (sibs r ((j : Int) + 1))) := (hP6.out.sets j b hb).1
    have c1 : w6.cell? ⟨B, 1, none⟩ = some (.int .i64 m.1) := hQ6.out.c1
    have c2 : w6.cell? ⟨B, 2, none⟩ = some (.int .i64 m.2.1) := hQ6.out.c2
    have c3 : w6.cell? ⟨B, 3, none⟩ = some (.int .i8 m.2.2) := hQ6.out.c3
    have hlk : (Instr.lookup 94 (.map (some b)) (.agg #[.int .i64 m.1, .int .i64 m.2.1, .int .i8 m.2.2]) false).run Try.prog w6 = .ok (.bool (decide (m ∈ sibs r ((j : Int) + 1)))) w6 := hM.out.lookup hwH.out
    have hB6 := Lib.hid hP6.out.below
    cases hmem : decide (m ∈ sibs r ((j : Int) + 1)) with
    | true =>
      rw [hmem] at hlk
      have hf0 : Hid (fitB r ((j : Int) + 1, m) = false) := by show _ = _; rw [hfit.out, hmem]; rfl
      clear hmem
      go_wp2_with fail
      go_ret
      exact AddP.no hf0.out hB6.out
    | false =>
      rw [hmem] at hlk
      have hf1 : Hid (fitB r ((j : Int) + 1, m) = true) := by show _ = _; rw [hfit.out, hmem]; rfl
      clear hmem
      obtain ⟨w7, hup, hM7, hg7⟩ := hM.out.update hwH.out (by unfold maxLen; omega)
      have hup' : (Instr.mapUpdate 94 (.map (some b)) (.agg #[.int .i64 m.1, .int .i64 m.2.1, .int .i8 m.2.2]) (.bool true)).run Try.prog w6 = .ok () w7 := hup
      have hP7 := Lib.hid (hP6.out.put hb hM7 hg7)
      have hend : Hid (Plc w0 w7 b0 Bp base (((j : Int) + 1, m) :: r)) := by
        refine ⟨_, _, _, ?_, hP7.out.congr fun i hi => ?_⟩
        · rw [hl3.out]
          show ((j + 1 : Nat) : Int) = (j : Int) + 1
          omega
        · rw [hl3.out] at hi
          by_cases e : i = j
          · subst e
            show (if i = i then _ else _) = _
            rw [if_pos rfl]
            exact (sibs_same (x := ((i : Int) + 1, m))).symm
          · show (if i = j then _ else sibs r ((i : Int) + 1)) = _
            rw [if_neg e]
            exact (sibs_low (x := ((j : Int) + 1, m)) (by show (i : Int) + 1 < (j : Int) + 1; omega)).symm
      have hB7 := Lib.hid hP7.out.below
      clear hup hM7 hg7 hP7 hM hP6
      go_wp2_with fail
      go_ret
      exact AddP.yes hf1.out hend.out hB7.out
theorem padd (w0 w : World) (b0 Bp base : Nat) (r : List Nd) (x : Nd) (hP : Plc w0 w b0 Bp base r) (hr : top r ≤ 100000) (hrl : r.length ≤ 100000) (hw : wfM x.2) :
    Calls Try.prog 42 #[.pointer (some ⟨Bp, 0, none⟩), .agg #[.int .i64 x.1, .int .i64 x.2.1, .int .i64 x.2.2.1, .int .i8 x.2.2.2]] w (AddP w0 b0 Bp base r x) := by
  cases hb : plyB r x with
  | true => exact padd_in w0 w b0 Bp base r x hP hr hrl hw hb
  | false => exact padd_ply w0 w b0 Bp base r x hP hr hb
end Go.Proofs.Yteaclphankckiaa
