/- Layer 35: the reference's all: its walk. -/
import Derived.Test.YteaclphankckiaaTu
namespace Go.Proofs.Yteaclphankckiaa
open Go Go.RowKit
set_option linter.unusedSimpArgs false
set_option linter.unusedVariables false

/-- six counters in a block -/
structure N6 (w : World) (B : Nat) (g : Nat → Int) : Prop where
  cell : ∀ v, v < 6 → w.cell? ⟨B, v, none⟩ = some (.int .i64 (g v))
  fr : ∀ v, w.frozen? ⟨B, v, none⟩ = false
  lt : B < w.heap.size
theorem N6.new (w : World) (t : TypeId) : N6 (w.alloc (.cells #[.int .i64 0, .int .i64 0, .int .i64 0, .int .i64 0, .int .i64 0, .int .i64 0] t)) w.heap.size (fun _ => 0) := by
  have h2 := heap_alloc_new w (.cells #[.int .i64 0, .int .i64 0, .int .i64 0, .int .i64 0, .int .i64 0, .int .i64 0] t)
  refine ⟨fun k hk => ?_, fun k => ?_, by simp⟩
  · rw [cell_of_row _ _ _ _ _ _ h2]
    have : k = 0 ∨ k = 1 ∨ k = 2 ∨ k = 3 ∨ k = 4 ∨ k = 5 := by omega
    rcases this with rfl | rfl | rfl | rfl | rfl | rfl <;> rfl
  · simp only [World.frozen?]; rw [h2]; rfl
theorem N6.set {w : World} {B : Nat} {g : Nat → Int} (h : N6 w B g) {v : Nat} (hv : v < 6) (x : Int) : N6 (w.setCell ⟨B, v, none⟩ (.int .i64 x)) B (fun u => if u = v then x else g u) := by
  refine ⟨fun u hu => ?_, fun u => by rw [World.frozen?_setCell]; exact h.fr u, by rw [nblk_set]; exact h.lt⟩
  by_cases e : u = v
  · subst e
    rw [if_pos rfl]
    exact World.cell?_setCell_same' _ _ _ (by rw [h.cell _ hu]; rfl)
  · rw [if_neg e, cell_off _ _ _ _ _ (fun e2 => e e2.symm)]
    exact h.cell u hu
theorem N6.congr {w : World} {B : Nat} {g g' : Nat → Int} (h : N6 w B g) (e : ∀ u, u < 6 → g u = g' u) : N6 w B g' := ⟨fun v hv => by rw [← e v hv]; exact h.cell v hv, h.fr, h.lt⟩
theorem N6.step {w : World} {B : Nat} {t : List Nd} {k : Nat} {x : Nd} (h : N6 w B (fun v => cn t (v : Int) k)) (hx : t[k]? = some x) {v : Nat} (hv : v < 6) (hp : nPr x = (v : Int)) : N6 (w.setCell ⟨B, v, none⟩ (.int .i64 (cn t (v : Int) k + 1))) B (fun v => cn t (v : Int) (k + 1)) := by
  refine (h.set hv _).congr fun u hu => ?_
  rw [cn_succ hx]
  by_cases e : u = v
  · rw [if_pos e, if_pos (by rw [hp, e]), e]
  · rw [if_neg e, if_neg (by rw [hp]; omega), Int.add_zero]
set_option maxRecDepth 100000 in
set_option maxHeartbeats 4000000 in
theorem rall (f q : Int) (At : Option Addr) (t : List Nd) (ct i : Nat) (x : Nd) (w : World) (hT : RecAt nEnc 4 w w.heap.size At t) (hl : t.length ≤ 1000) (hok : okK f q t t.length = true) (hx : t[i]? = some x) :
    Calls Try.prog 50 #[.slice At t.length ct, .int .i64 (i : Int)] w fun e w' => e = .returned (.bool (allB t i x)) ∧ Below w.heap.size w w' := by
  have hTH := Lib.hid hT
  have hokH := Lib.hid hok
  have hil : i < t.length := (List.getElem?_eq_some_iff.1 hx).1
  have hiI : (i : Int) < (t.length : Int) := by omega
  have hi0 : (0 : Int) ≤ (i : Int) := Int.natCast_nonneg _
  have hpr := (mvB_out (nodeB_out (okK_at hok hil hx)).1).2.2.2
  obtain ⟨b, off, rfl, hb, _, _, _, e3⟩ := nd4 hT hx
  have hN0 := Lib.hid (N6.new w 99)
  have hb0 : Hid (Below w.heap.size w (w.alloc (.cells #[.int .i64 0, .int .i64 0, .int .i64 0, .int .i64 0, .int .i64 0, .int .i64 0] 99))) := (Below.refl _ _).alloc (Nat.le_refl _) _
  clear hT hok
  go_enter Try.func50, Try.ntmps50
  go_upto_region 2 with fail
  generalize w.alloc (.cells #[.int .i64 0, .int .i64 0, .int .i64 0, .int .i64 0, .int .i64 0, .int .i64 0] 99) = w1 at *
  go_wp2_with fail
  go_loopw [6] (fun s wr => ∃ k : Nat, k ≤ i + 1 ∧ s = .int .i64 k ∧ Hid (N6 wr w.heap.size (fun v => cn t (v : Int) k)) ∧ Hid (Below w.heap.size w wr)) (fun s _ => i + 1 - (intOf s).toNat)
  case atStart => exact ⟨0, Nat.zero_le _, rfl, hN0, hb0⟩
  case round =>
    clear hN0 hb0
    obtain ⟨k, hk, rfl, hN, hbr⟩ := hrel
    by_cases hki : k ≤ i
    · obtain ⟨y, hy⟩ : ∃ y, t[k]? = some y := ⟨_, List.getElem?_eq_getElem (by omega)⟩
      obtain ⟨b', off', he, _, _, _, _, f3⟩ := nd4 hTH.out hy
      obtain ⟨rfl, rfl⟩ : b' = b ∧ off' = off := by
        simp only [Option.some.injEq, Addr.mk.injEq, and_true] at he
        exact ⟨he.1.symm, he.2.symm⟩
      have m3 := (hbr.out.cell (p := ⟨b', off' + k * 4 + 3, none⟩) hb).trans f3
      have hk0 : (0 : Int) ≤ (k : Int) := Int.natCast_nonneg _
      have hkI : (k : Int) ≤ (i : Int) := by omega
      have hkT : (k : Int) < (t.length : Int) := by omega
      have hyp := (mvB_out (nodeB_out (okK_at hokH.out (by omega) hy)).1).2.2.2
      have hst : Hid (∀ {v : Nat}, v < 6 → nPr y = (v : Int) → N6 (wr.setCell ⟨w.heap.size, v, none⟩ (.int .i64 (cn t (v : Int) k + 1))) w.heap.size (fun v => cn t (v : Int) (k + 1))) := fun hv hp => hN.out.step hy hv hp
      have hcb := Lib.hid (fun v => cn_bd t v k)
      clear he f3
      replace hy := Lib.hid hy
      obtain ⟨yp, ya, yb, yc⟩ := y
      have m3' : wr.cell? ⟨b', off' + k * 4 + 3, none⟩ = some (.int .i8 yc) := m3
      have hyp' : yc = 0 ∨ yc = 2 ∨ yc = 3 ∨ yc = 4 ∨ yc = 5 := by
        have : yc = 0 ∨ 2 ≤ yc ∧ yc ≤ 5 := hyp
        omega
      clear m3 hyp
      rcases hyp' with rfl | rfl | rfl | rfl | rfl
      · have c0 : wr.cell? ⟨w.heap.size, 0, none⟩ = some (.int .i64 (cn t 0 k)) := hN.out.cell 0 (by omega)
        have hfz := hN.out.fr 0
        have hbd := hcb.out 0
        have hn2 : Hid (N6 (wr.setCell ⟨w.heap.size, 0, none⟩ (.int .i64 (cn t 0 k + 1))) w.heap.size (fun v => cn t (v : Int) (k + 1))) := hst.out (by omega) rfl
        have hb2 : Hid (Below w.heap.size w (wr.setCell ⟨w.heap.size, 0, none⟩ (.int .i64 (cn t 0 k + 1)))) := hbr.out.setCell (p := ⟨w.heap.size, 0, none⟩) (Nat.le_refl _) _
        obtain ⟨z, hz⟩ : ∃ z, cn t 0 k = z := ⟨_, rfl⟩
        rw [hz] at c0 hbd hn2 hb2
        replace hz := Lib.hid hz
        go_wp2_with fail
        go_roundw
        case rel => exact ⟨k + 1, by omega, by go_num, hn2, hb2⟩
        case measure => simp [intOf]; omega
      · have c2 : wr.cell? ⟨w.heap.size, 2, none⟩ = some (.int .i64 (cn t 2 k)) := hN.out.cell 2 (by omega)
        have hfz := hN.out.fr 2
        have hbd := hcb.out 2
        have hn2 : Hid (N6 (wr.setCell ⟨w.heap.size, 2, none⟩ (.int .i64 (cn t 2 k + 1))) w.heap.size (fun v => cn t (v : Int) (k + 1))) := hst.out (by omega) rfl
        have hb2 : Hid (Below w.heap.size w (wr.setCell ⟨w.heap.size, 2, none⟩ (.int .i64 (cn t 2 k + 1)))) := hbr.out.setCell (p := ⟨w.heap.size, 2, none⟩) (Nat.le_refl _) _
        obtain ⟨z, hz⟩ : ∃ z, cn t 2 k = z := ⟨_, rfl⟩
        rw [hz] at c2 hbd hn2 hb2
        replace hz := Lib.hid hz
        go_wp2_with fail
        go_roundw
        case rel => exact ⟨k + 1, by omega, by go_num, hn2, hb2⟩
        case measure => simp [intOf]; omega
      · have c3 : wr.cell? ⟨w.heap.size, 3, none⟩ = some (.int .i64 (cn t 3 k)) := hN.out.cell 3 (by omega)
        have hfz := hN.out.fr 3
        have hbd := hcb.out 3
        have hn2 : Hid (N6 (wr.setCell ⟨w.heap.size, 3, none⟩ (.int .i64 (cn t 3 k + 1))) w.heap.size (fun v => cn t (v : Int) (k + 1))) := hst.out (by omega) rfl
        have hb2 : Hid (Below w.heap.size w (wr.setCell ⟨w.heap.size, 3, none⟩ (.int .i64 (cn t 3 k + 1)))) := hbr.out.setCell (p := ⟨w.heap.size, 3, none⟩) (Nat.le_refl _) _
        obtain ⟨z, hz⟩ : ∃ z, cn t 3 k = z := ⟨_, rfl⟩
        rw [hz] at c3 hbd hn2 hb2
        replace hz := Lib.hid hz
        go_wp2_with fail
        go_roundw
        case rel => exact ⟨k + 1, by omega, by go_num, hn2, hb2⟩
        case measure => simp [intOf]; omega
      · have c4 : wr.cell? ⟨w.heap.size, 4, none⟩ = some (.int .i64 (cn t 4 k)) := hN.out.cell 4 (by omega)
        have hfz := hN.out.fr 4
        have hbd := hcb.out 4
        have hn2 : Hid (N6 (wr.setCell ⟨w.heap.size, 4, none⟩ (.int .i64 (cn t 4 k + 1))) w.heap.size (fun v => cn t (v : Int) (k + 1))) := hst.out (by omega) rfl
        have hb2 : Hid (Below w.heap.size w (wr.setCell ⟨w.heap.size, 4, none⟩ (.int .i64 (cn t 4 k + 1)))) := hbr.out.setCell (p := ⟨w.heap.size, 4, none⟩) (Nat.le_refl _) _
        obtain ⟨z, hz⟩ : ∃ z, cn t 4 k = z := ⟨_, rfl⟩
        rw [hz] at c4 hbd hn2 hb2
        replace hz := Lib.hid hz
        go_wp2_with fail
        go_roundw
        case rel => exact ⟨k + 1, by omega, by go_num, hn2, hb2⟩
        case measure => simp [intOf]; omega
      · have c5 : wr.cell? ⟨w.heap.size, 5, none⟩ = some (.int .i64 (cn t 5 k)) := hN.out.cell 5 (by omega)
        have hfz := hN.out.fr 5
        have hbd := hcb.out 5
        have hn2 : Hid (N6 (wr.setCell ⟨w.heap.size, 5, none⟩ (.int .i64 (cn t 5 k + 1))) w.heap.size (fun v => cn t (v : Int) (k + 1))) := hst.out (by omega) rfl
        have hb2 : Hid (Below w.heap.size w (wr.setCell ⟨w.heap.size, 5, none⟩ (.int .i64 (cn t 5 k + 1)))) := hbr.out.setCell (p := ⟨w.heap.size, 5, none⟩) (Nat.le_refl _) _
        obtain ⟨z, hz⟩ : ∃ z, cn t 5 k = z := ⟨_, rfl⟩
        rw [hz] at c5 hbd hn2 hb2
        replace hz := Lib.hid hz
        go_wp2_with fail
        go_roundw
        case rel => exact ⟨k + 1, by omega, by go_num, hn2, hb2⟩
        case measure => simp [intOf]; omega
    · have hke : k = i + 1 := by omega
      subst hke
      have g2 : wr.cell? ⟨w.heap.size, 2, none⟩ = some (.int .i64 (cn t 2 (i + 1))) := hN.out.cell 2 (by omega)
      have g3 : wr.cell? ⟨w.heap.size, 3, none⟩ = some (.int .i64 (cn t 3 (i + 1))) := hN.out.cell 3 (by omega)
      have g4 : wr.cell? ⟨w.heap.size, 4, none⟩ = some (.int .i64 (cn t 4 (i + 1))) := hN.out.cell 4 (by omega)
      have g5 : wr.cell? ⟨w.heap.size, 5, none⟩ = some (.int .i64 (cn t 5 (i + 1))) := hN.out.cell 5 (by omega)
      have m3 := (hbr.out.cell (p := ⟨b, off + i * 4 + 3, none⟩) hb).trans e3
      have hall : Hid (allB t i x = (decide (nPr x ≠ 0) && (decide (0 < cn t 2 (i + 1)) && (decide (0 < cn t 3 (i + 1)) && (decide (0 < cn t 4 (i + 1)) && (decide (0 < cn t 5 (i + 1)) && decide (cn t (nPr x) (i + 1) = 1))))))) := rfl
      obtain ⟨p, ma, mb, mc⟩ := x
      have m3' : wr.cell? ⟨b, off + i * 4 + 3, none⟩ = some (.int .i8 mc) := m3
      have hpr' : mc = 0 ∨ mc = 2 ∨ mc = 3 ∨ mc = 4 ∨ mc = 5 := by
        have : mc = 0 ∨ 2 ≤ mc ∧ mc ≤ 5 := hpr
        omega
      have hxH := Lib.hid hx
      clear m3 hpr hx e3
      have hki2 : ((i : Int) + 1 ≤ (i : Int)) = False := by rw [eq_iff_iff, iff_false]; omega
      obtain ⟨a2, h2⟩ : ∃ a2, cn t 2 (i + 1) = a2 := ⟨_, rfl⟩
      obtain ⟨a3, h3⟩ : ∃ a3, cn t 3 (i + 1) = a3 := ⟨_, rfl⟩
      obtain ⟨a4, h4⟩ : ∃ a4, cn t 4 (i + 1) = a4 := ⟨_, rfl⟩
      obtain ⟨a5, h5⟩ : ∃ a5, cn t 5 (i + 1) = a5 := ⟨_, rfl⟩
      rw [h2] at g2 hall
      rw [h3] at g3 hall
      rw [h4] at g4 hall
      rw [h5] at g5 hall
      rcases hpr' with rfl | rfl | rfl | rfl | rfl
      · replace h2 := Lib.hid h2
        replace h3 := Lib.hid h3
        replace h4 := Lib.hid h4
        replace h5 := Lib.hid h5
        have hf : Hid (allB t i (p, ma, mb, 0) = false) := by show _ = _; rw [hall.out]; rfl
        go_wp2_with fail
        go_ret
        exact ⟨rb hf.out.symm, hbr.out⟩
      · have hallv : Hid (allB t i (p, ma, mb, 2) = (decide (0 < a2) && (decide (0 < a3) && (decide (0 < a4) && (decide (0 < a5) && decide (a2 = 1)))))) := by
          show _ = _
          rw [hall.out, show cn t (nPr (p, ma, mb, 2)) (i + 1) = a2 from h2]
          rfl
        replace h2 := Lib.hid h2
        replace h3 := Lib.hid h3
        replace h4 := Lib.hid h4
        replace h5 := Lib.hid h5
        have hone : ∀ z : Int, (z == 1) = decide (z = 1) := fun z => by rw [Bool.eq_iff_iff, beq_iff_eq, decide_eq_true_iff]
        have hof := Lib.hid (hone a2)
        clear hone
        cases k2 : decide (0 < a2) with
        | false =>
          have hf : Hid (allB t i (p, ma, mb, 2) = false) := by show _ = _; rw [hallv.out, k2]; rfl
          go_wp2_with fail
          go_ret
          exact ⟨rb hf.out.symm, hbr.out⟩
        | true =>
          cases k3 : decide (0 < a3) with
          | false =>
            have hf : Hid (allB t i (p, ma, mb, 2) = false) := by show _ = _; rw [hallv.out, k2, k3]; rfl
            go_wp2_with fail
            go_ret
            exact ⟨rb hf.out.symm, hbr.out⟩
          | true =>
            cases k4 : decide (0 < a4) with
            | false =>
              have hf : Hid (allB t i (p, ma, mb, 2) = false) := by show _ = _; rw [hallv.out, k2, k3, k4]; rfl
              go_wp2_with fail
              go_ret
              exact ⟨rb hf.out.symm, hbr.out⟩
            | true =>
              cases k5 : decide (0 < a5) with
              | false =>
                have hf : Hid (allB t i (p, ma, mb, 2) = false) := by show _ = _; rw [hallv.out, k2, k3, k4, k5]; rfl
                go_wp2_with fail
                go_ret
                exact ⟨rb hf.out.symm, hbr.out⟩
              | true =>
                have hf : Hid (allB t i (p, ma, mb, 2) = (a2 == 1)) := by show _ = _; rw [hallv.out, k2, k3, k4, k5, hof.out]; rfl
                go_wp2_with fail
                go_ret
                exact ⟨rb hf.out.symm, hbr.out⟩
      · have hallv : Hid (allB t i (p, ma, mb, 3) = (decide (0 < a2) && (decide (0 < a3) && (decide (0 < a4) && (decide (0 < a5) && decide (a3 = 1)))))) := by
          show _ = _
          rw [hall.out, show cn t (nPr (p, ma, mb, 3)) (i + 1) = a3 from h3]
          rfl
        replace h2 := Lib.hid h2
        replace h3 := Lib.hid h3
        replace h4 := Lib.hid h4
        replace h5 := Lib.hid h5
        have hone : ∀ z : Int, (z == 1) = decide (z = 1) := fun z => by rw [Bool.eq_iff_iff, beq_iff_eq, decide_eq_true_iff]
        have hof := Lib.hid (hone a3)
        clear hone
        cases k2 : decide (0 < a2) with
        | false =>
          have hf : Hid (allB t i (p, ma, mb, 3) = false) := by show _ = _; rw [hallv.out, k2]; rfl
          go_wp2_with fail
          go_ret
          exact ⟨rb hf.out.symm, hbr.out⟩
        | true =>
          cases k3 : decide (0 < a3) with
          | false =>
            have hf : Hid (allB t i (p, ma, mb, 3) = false) := by show _ = _; rw [hallv.out, k2, k3]; rfl
            go_wp2_with fail
            go_ret
            exact ⟨rb hf.out.symm, hbr.out⟩
          | true =>
            cases k4 : decide (0 < a4) with
            | false =>
              have hf : Hid (allB t i (p, ma, mb, 3) = false) := by show _ = _; rw [hallv.out, k2, k3, k4]; rfl
              go_wp2_with fail
              go_ret
              exact ⟨rb hf.out.symm, hbr.out⟩
            | true =>
              cases k5 : decide (0 < a5) with
              | false =>
                have hf : Hid (allB t i (p, ma, mb, 3) = false) := by show _ = _; rw [hallv.out, k2, k3, k4, k5]; rfl
                go_wp2_with fail
                go_ret
                exact ⟨rb hf.out.symm, hbr.out⟩
              | true =>
                have hf : Hid (allB t i (p, ma, mb, 3) = (a3 == 1)) := by show _ = _; rw [hallv.out, k2, k3, k4, k5, hof.out]; rfl
                go_wp2_with fail
                go_ret
                exact ⟨rb hf.out.symm, hbr.out⟩
      · have hallv : Hid (allB t i (p, ma, mb, 4) = (decide (0 < a2) && (decide (0 < a3) && (decide (0 < a4) && (decide (0 < a5) && decide (a4 = 1)))))) := by
          show _ = _
          rw [hall.out, show cn t (nPr (p, ma, mb, 4)) (i + 1) = a4 from h4]
          rfl
        replace h2 := Lib.hid h2
        replace h3 := Lib.hid h3
        replace h4 := Lib.hid h4
        replace h5 := Lib.hid h5
        have hone : ∀ z : Int, (z == 1) = decide (z = 1) := fun z => by rw [Bool.eq_iff_iff, beq_iff_eq, decide_eq_true_iff]
        have hof := Lib.hid (hone a4)
        clear hone
        cases k2 : decide (0 < a2) with
        | false =>
          have hf : Hid (allB t i (p, ma, mb, 4) = false) := by show _ = _; rw [hallv.out, k2]; rfl
          go_wp2_with fail
          go_ret
          exact ⟨rb hf.out.symm, hbr.out⟩
        | true =>
          cases k3 : decide (0 < a3) with
          | false =>
            have hf : Hid (allB t i (p, ma, mb, 4) = false) := by show _ = _; rw [hallv.out, k2, k3]; rfl
            go_wp2_with fail
            go_ret
            exact ⟨rb hf.out.symm, hbr.out⟩
          | true =>
            cases k4 : decide (0 < a4) with
            | false =>
              have hf : Hid (allB t i (p, ma, mb, 4) = false) := by show _ = _; rw [hallv.out, k2, k3, k4]; rfl
              go_wp2_with fail
              go_ret
              exact ⟨rb hf.out.symm, hbr.out⟩
            | true =>
              cases k5 : decide (0 < a5) with
              | false =>
                have hf : Hid (allB t i (p, ma, mb, 4) = false) := by show _ = _; rw [hallv.out, k2, k3, k4, k5]; rfl
                go_wp2_with fail
                go_ret
                exact ⟨rb hf.out.symm, hbr.out⟩
              | true =>
                have hf : Hid (allB t i (p, ma, mb, 4) = (a4 == 1)) := by show _ = _; rw [hallv.out, k2, k3, k4, k5, hof.out]; rfl
                go_wp2_with fail
                go_ret
                exact ⟨rb hf.out.symm, hbr.out⟩
      · have hallv : Hid (allB t i (p, ma, mb, 5) = (decide (0 < a2) && (decide (0 < a3) && (decide (0 < a4) && (decide (0 < a5) && decide (a5 = 1)))))) := by
          show _ = _
          rw [hall.out, show cn t (nPr (p, ma, mb, 5)) (i + 1) = a5 from h5]
          rfl
        replace h2 := Lib.hid h2
        replace h3 := Lib.hid h3
        replace h4 := Lib.hid h4
        replace h5 := Lib.hid h5
        have hone : ∀ z : Int, (z == 1) = decide (z = 1) := fun z => by rw [Bool.eq_iff_iff, beq_iff_eq, decide_eq_true_iff]
        have hof := Lib.hid (hone a5)
        clear hone
        cases k2 : decide (0 < a2) with
        | false =>
          have hf : Hid (allB t i (p, ma, mb, 5) = false) := by show _ = _; rw [hallv.out, k2]; rfl
          go_wp2_with fail
          go_ret
          exact ⟨rb hf.out.symm, hbr.out⟩
        | true =>
          cases k3 : decide (0 < a3) with
          | false =>
            have hf : Hid (allB t i (p, ma, mb, 5) = false) := by show _ = _; rw [hallv.out, k2, k3]; rfl
            go_wp2_with fail
            go_ret
            exact ⟨rb hf.out.symm, hbr.out⟩
          | true =>
            cases k4 : decide (0 < a4) with
            | false =>
              have hf : Hid (allB t i (p, ma, mb, 5) = false) := by show _ = _; rw [hallv.out, k2, k3, k4]; rfl
              go_wp2_with fail
              go_ret
              exact ⟨rb hf.out.symm, hbr.out⟩
            | true =>
              cases k5 : decide (0 < a5) with
              | false =>
                have hf : Hid (allB t i (p, ma, mb, 5) = false) := by show _ = _; rw [hallv.out, k2, k3, k4, k5]; rfl
                go_wp2_with fail
                go_ret
                exact ⟨rb hf.out.symm, hbr.out⟩
              | true =>
                have hf : Hid (allB t i (p, ma, mb, 5) = (a5 == 1)) := by show _ = _; rw [hallv.out, k2, k3, k4, k5, hof.out]; rfl
                go_wp2_with fail
                go_ret
                exact ⟨rb hf.out.symm, hbr.out⟩
end Go.Proofs.Yteaclphankckiaa
