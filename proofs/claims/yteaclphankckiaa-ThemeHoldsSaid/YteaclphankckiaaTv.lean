/- Layer 35: which trees are valid: the program's. -/
import Derived.Test.YteaclphankckiaaTq
namespace Go.Proofs.Yteaclphankckiaa
open Go Go.RowKit
set_option linter.unusedSimpArgs false
set_option linter.unusedVariables false

/-- two cells of a block -/
structure Sz2 (w : World) (B : Nat) (f q : Int) : Prop where
  c0 : w.cell? ⟨B, 0, none⟩ = some (.int .i64 f)
  c1 : w.cell? ⟨B, 1, none⟩ = some (.int .i64 q)
  lt : B < w.heap.size
theorem Sz2.new (w : World) (f q : Int) (t : TypeId) : Sz2 (w.alloc (.cells #[.int .i64 f, .int .i64 q] t)) w.heap.size f q := by
  have h2 := heap_alloc_new w (.cells #[.int .i64 f, .int .i64 q] t)
  refine ⟨?_, ?_, by simp⟩ <;> (rw [cell_of_row _ _ _ _ _ _ h2]; rfl)
theorem Sz2.below {w w' : World} {B b0 : Nat} {f q : Int} (h : Sz2 w B f q) (hB : B < b0) (hb : Below b0 w w') : Sz2 w' B f q :=
  ⟨(hb.cell (p := ⟨B, 0, none⟩) hB).trans h.c0, (hb.cell (p := ⟨B, 1, none⟩) hB).trans h.c1, Nat.lt_of_lt_of_le h.lt hb.size⟩
theorem Sz2.next {w w' : World} {B : Nat} {f q : Int} (h : Sz2 w B f q) (hb : Below w.heap.size w w') : Sz2 w' B f q := h.below h.lt hb
theorem sz_or (f q : Int) : (szB f q = true ∧ 3 ≤ f ∧ f ≤ 8 ∧ 3 ≤ q ∧ q ≤ 8) ∨ (szB f q = false ∧ (f < 3 ∨ 3 ≤ f ∧ 8 < f ∨ 3 ≤ f ∧ f ≤ 8 ∧ q < 3 ∨ 3 ≤ f ∧ f ≤ 8 ∧ 3 ≤ q ∧ 8 < q)) := by
  cases h : szB f q with
  | true => exact .inl ⟨rfl, szB_out h⟩
  | false =>
    have : ¬ (3 ≤ f ∧ f ≤ 8 ∧ 3 ≤ q ∧ q ≤ 8) := of_decide_eq_false h
    exact .inr ⟨rfl, by omega⟩
theorem treeB_sz {f q : Int} {t : List Nd} (h : szB f q = false) : treeB f q t = false := by unfold treeB; rw [h]; rfl
theorem treeB_no {f q : Int} {t : List Nd} {k : Nat} {x : Nd} (h : t[k]? = some x) (hx : nodeB f q (back t k) x = false) : treeB f q t = false := by
  unfold treeB
  rw [okK_no (List.getElem?_eq_some_iff.1 h).1 h hx, Bool.and_false]
theorem nodeB_mv {f q : Int} {r : List Nd} {x : Nd} (h : mvB f q x.2.1 x.2.2.1 x.2.2.2 = false) : nodeB f q r x = false := by unfold nodeB; rw [h]; rfl
theorem nodeB_fit {f q : Int} {r : List Nd} {x : Nd} (h : fitB r x = false) : nodeB f q r x = false := by unfold nodeB; rw [h, Bool.and_false]
set_option maxRecDepth 100000 in
set_option maxHeartbeats 4000000 in
theorem ptree (f q : Int) (A : Option Addr) (t : List Nd) (c : Nat) (w : World) (hT : RecAt nEnc 4 w w.heap.size A t) (hl : t.length ≤ 1000) :
    Calls Try.prog 21 #[.agg #[.int .i64 f, .int .i64 q], .slice A t.length c] w fun e w' => e = .returned (.bool (treeB f q t)) ∧ Below w.heap.size w w' := by
  have hTH := Lib.hid hT
  have hS := Lib.hid (Sz2.new w f q 23)
  have hb1 : Hid (Below w.heap.size w (w.alloc (.cells #[.int .i64 f, .int .i64 q] 23))) := (Below.refl _ _).alloc (Nat.le_refl _) _
  have hs1 : w.heap.size < (w.alloc (.cells #[.int .i64 f, .int .i64 q] 23)).heap.size := by simp
  have hfl : ((100000 : Int) < (t.length : Int)) = False := by rw [eq_iff_iff, iff_false]; omega
  clear hT
  rcases sz_or f q with ⟨hz, z0, z1, z2, z3⟩ | ⟨hz, hor⟩
  · have hzH := Lib.hid hz
    clear hz
    go_enter Try.func21, Try.ntmps21
    go_upto_region 1 with fail
    generalize w.alloc (.cells #[.int .i64 f, .int .i64 q] 23) = w1 at *
    have c0 := hS.out.c0
    have c1 := hS.out.c1
    go_upto_region 4 with fail
    have hP0 := Lib.hid (Plc.first w1 w1 w1.heap.size 78 (Below.refl _ _) (Nat.le_refl _))
    clear c0 c1 z0 z1 z2 z3
    generalize w1.alloc (.cells #[.slice none 0 0] 78) = w2 at *
    go_wp2_with fail
    go_loopw [33] (fun i wr => ∃ k : Nat, k ≤ t.length ∧ i = .int .i64 k ∧ Hid (okK f q t k = true) ∧ Hid (Plc w1 wr w1.heap.size w1.heap.size (w1.heap.size + 1) (back t k))) (fun i _ => t.length - (intOf i).toNat)
    case atStart => exact ⟨0, Nat.zero_le _, rfl, rfl, by rw [back_zero]; exact hP0⟩
    case round =>
      clear hP0
      obtain ⟨k, hk, rfl, hok, hP⟩ := hrel
      have hbr : Hid (Below w1.heap.size w1 wr) := by obtain ⟨_, _, _, _, h⟩ := hP.out; exact h.below
      have hsr : w1.heap.size < wr.heap.size := by obtain ⟨_, _, _, _, h⟩ := hP.out; have := h.lt; omega
      have hbw := Lib.hid (hb1.out.trans (hbr.out.mono (by omega)))
      by_cases hkn : k < t.length
      · obtain ⟨x, hx⟩ : ∃ x, t[k]? = some x := ⟨_, List.getElem?_eq_getElem hkn⟩
        obtain ⟨bT, oT, rfl, hbT, e0, e1, e2, e3⟩ := nd4 hTH.out hx
        have m0 := (hbw.out.cell (p := ⟨bT, oT + k * 4, none⟩) hbT).trans e0
        have m1 := (hbw.out.cell (p := ⟨bT, oT + k * 4 + 1, none⟩) hbT).trans e1
        have m2 := (hbw.out.cell (p := ⟨bT, oT + k * 4 + 2, none⟩) hbT).trans e2
        have m3 := (hbw.out.cell (p := ⟨bT, oT + k * 4 + 3, none⟩) hbT).trans e3
        have hki : (k : Int) < (t.length : Int) := by omega
        have hQ := Lib.hid (Qd.new wr x 59)
        have hbq : Hid (Below wr.heap.size wr (wr.alloc (.cells #[.int .i64 x.1, .int .i64 x.2.1, .int .i64 x.2.2.1, .int .i8 x.2.2.2] 59))) := (Below.refl _ _).alloc (Nat.le_refl _) _
        have hno := Lib.hid (fun h => treeB_no (f := f) (q := q) hx h)
        have hsu := Lib.hid (okK_succ (f := f) (q := q) hx)
        have hbk := Lib.hid (back_succ hx)
        obtain ⟨t0, t1⟩ := okK_ply hok.out (Nat.le_refl k)
        have hbl := back_length hk
        clear e0 e1 e2 e3
        replace hx := Lib.hid hx
        obtain ⟨p, a, b, pr⟩ := x
        go_upto_region 7 with fail
        clear m0 m1 m2 m3
        have hP2 := Lib.hid (hP.out.next hbq.out)
        have hb9 := Lib.hid (hbw.out.trans (hbq.out.mono (by have := hbw.out.size; omega)))
        have hS9 : Hid (Sz2 (wr.alloc (.cells #[.int .i64 p, .int .i64 a, .int .i64 b, .int .i8 pr] 59)) w.heap.size f q) := ((hS.out.below hs1 hbr.out).next hbq.out)
        clear hbq hP
        generalize wr.heap.size = BQ at *
        generalize wr.alloc (.cells #[.int .i64 p, .int .i64 a, .int .i64 b, .int .i8 pr] 59) = w3 at *
        have c0 := hS9.out.c0
        have c1 := hS9.out.c1
        have q0 : w3.cell? ⟨BQ, 0, none⟩ = some (.int .i64 p) := hQ.out.c0
        have q1 : w3.cell? ⟨BQ, 1, none⟩ = some (.int .i64 a) := hQ.out.c1
        have q2 : w3.cell? ⟨BQ, 2, none⟩ = some (.int .i64 b) := hQ.out.c2
        have q3 : w3.cell? ⟨BQ, 3, none⟩ = some (.int .i8 pr) := hQ.out.c3
        cases hmv : mvB f q a b pr with
        | false =>
          have hf := Lib.hid (hno.out (nodeB_mv hmv))
          go_wp2_with (go_at_call 41; refine (pmvalid _ _ _ _ _ _).mono ?_; rintro e w' ⟨rfl, hbv⟩; rw [hmv])
          go_ret
          exact ⟨rb hf.out.symm, hb9.out.trans (hbv.mono (by have := hb9.out.size; omega))⟩
        | true =>
          have hwf := Lib.hid (wfM_of (m := (a, b, pr)) hmv)
          cases hfit : fitB (back t k) (p, a, b, pr) with
          | false =>
            have hf := Lib.hid (hno.out (nodeB_fit hfit))
            go_wp2_with (first
              | (go_at_call 41; refine (pmvalid _ _ _ _ _ _).mono ?_; rintro e w' ⟨rfl, hbv⟩; rw [hmv]; replace hP2 := Lib.hid (hP2.out.next hbv); replace hQ := Lib.hid (hQ.out.next hbv); replace hb9 := Lib.hid (hb9.out.trans (hbv.mono (by have := hb9.out.size; omega))); replace q0 := hQ.out.c0; replace q1 := hQ.out.c1; replace q2 := hQ.out.c2; replace q3 := hQ.out.c3; clear hbv)
              | (go_at_call 42; refine (padd w1 _ _ _ _ (back t k) (p, a, b, pr) hP2.out (by omega) (by omega) hwf.out).mono ?_; rintro e w' ⟨rfl, hyes, hbv⟩; rw [hfit]; replace hbv := Lib.hid hbv; replace hyes := Lib.hid hyes))
            go_ret
            exact ⟨rb hf.out.symm, hb1.out.trans (hbv.out.mono (by omega))⟩
          | true =>
            have hok2 : Hid (okK f q t (k + 1) = true) := by
              show _ = _
              rw [hsu.out, hok.out, Bool.true_and]
              unfold nodeB
              rw [hfit, Bool.and_true]
              exact hmv
            go_wp2_with (first
              | (go_at_call 41; refine (pmvalid _ _ _ _ _ _).mono ?_; rintro e w' ⟨rfl, hbv⟩; rw [hmv]; replace hP2 := Lib.hid (hP2.out.next hbv); replace hQ := Lib.hid (hQ.out.next hbv); replace hb9 := Lib.hid (hb9.out.trans (hbv.mono (by have := hb9.out.size; omega))); replace q0 := hQ.out.c0; replace q1 := hQ.out.c1; replace q2 := hQ.out.c2; replace q3 := hQ.out.c3; clear hbv)
              | (go_at_call 42; refine (padd w1 _ _ _ _ (back t k) (p, a, b, pr) hP2.out (by omega) (by omega) hwf.out).mono ?_; rintro e w' ⟨rfl, hyes, hbv⟩; rw [hfit]; replace hbv := Lib.hid hbv; replace hyes := Lib.hid hyes))
            have hP3 : Hid (Plc w1 w' w1.heap.size w1.heap.size (w1.heap.size + 1) (back t (k + 1))) := by rw [hbk.out]; exact hyes.out hfit
            clear hfit hmv
            go_roundw
            case rel => exact ⟨k + 1, by omega, by go_num, hok2, hP3⟩
            case measure => simp [intOf]; omega
      · obtain rfl : k = t.length := by omega
        have hf : Hid (treeB f q t = true) := by show _ = _; unfold treeB; rw [hzH.out, hok.out]; rfl
        go_wp2_with fail
        go_ret
        exact ⟨rb hf.out.symm, hbw.out⟩
  · have hf := Lib.hid (treeB_sz (t := t) hz)
    clear hz
    go_enter Try.func21, Try.ntmps21
    go_upto_region 1 with fail
    generalize w.alloc (.cells #[.int .i64 f, .int .i64 q] 23) = w1 at *
    have c0 := hS.out.c0
    have c1 := hS.out.c1
    rcases hor with i1 | ⟨i1, i2⟩ | ⟨i1, i2, i3⟩ | ⟨i1, i2, i3, i4⟩
    all_goals
      go_wp2_with fail
      go_ret
      exact ⟨rb hf.out.symm, hb1.out⟩
end Go.Proofs.Yteaclphankckiaa
