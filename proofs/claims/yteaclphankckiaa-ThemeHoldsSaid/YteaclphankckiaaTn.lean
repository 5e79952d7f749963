/- Layer 35: lists compared; themes looked for. -/
import Derived.Test.YteaclphankckiaaTk
import Derived.Test.YteaclphankckiaaTeq
import Derived.Test.YteaclphankckiaaTw
import Derived.Test.YteaclphankckiaaTv
namespace Go.Proofs.Yteaclphankckiaa
open Go Go.RowKit
set_option linter.unusedSimpArgs false
set_option linter.unusedVariables false

theorem sh2 {w : World} {B : Nat} {A : Option Addr} {l : List Sh'} (h : RecAt shEnc 2 w B A l) {k : Nat} {x : Sh'} (hx : l[k]? = some x) :
    ∃ b off, A = some ⟨b, off, none⟩ ∧ b < B ∧ w.cell? ⟨b, off + k * 2, none⟩ = some (.int .i64 x.1) ∧ w.cell? ⟨b, off + k * 2 + 1, none⟩ = some (.int .i64 x.2) := by
  obtain ⟨b, off, e, hb, hc⟩ := h (by have := (List.getElem?_eq_some_iff.1 hx).1; omega)
  exact ⟨b, off, e, hb, hc k x hx 0 _ rfl, hc k x hx 1 _ rfl⟩
theorem take_step {α : Type} {l : List α} {k : Nat} {x : α} (h : l[k]? = some x) : l.take (k + 1) = l.take k ++ [x] := by rw [List.take_add_one, h]; rfl
theorem eq_len {α : Type} [DecidableEq α] {l m : List α} (h : l.length ≠ m.length) : decide (l = m) = false := decide_eq_false (fun e => h (by rw [e]))
theorem eq_at {α : Type} [DecidableEq α] {l m : List α} {k : Nat} {x y : α} (hx : l[k]? = some x) (hy : m[k]? = some y) (h : x ≠ y) : decide (l = m) = false := decide_eq_false (fun e => h (by rw [e] at hx; exact Option.some.inj (hx.symm.trans hy)))
theorem shE_yes {x x' : Sh} (h : x = x') : shE x x' = true := decide_eq_true h
theorem shE_no {x x' : Sh} (h : x ≠ x') : shE x x' = false := decide_eq_false h
theorem ndE_yes {x x' : Nd} (h : x = x') : ndE x x' = true := decide_eq_true h
theorem ndE_no {x x' : Nd} (h : x ≠ x') : ndE x x' = false := decide_eq_false h
set_option maxRecDepth 100000 in
set_option maxHeartbeats 2000000 in
theorem rsameS (A1 A2 : Option Addr) (c1 c2 : Nat) (l m : List Sh') (w : World) (h1 : RecAt shEnc 2 w w.heap.size A1 l) (h2 : RecAt shEnc 2 w w.heap.size A2 m) (hl : l.length ≤ 100000) (hm : m.length ≤ 100000) :
    Calls Try.prog 15 #[.slice A1 l.length c1, .slice A2 m.length c2] w fun e w' => e = .returned (.bool (decide (l = m))) ∧ Below w.heap.size w w' := by
  by_cases hlm : l.length = m.length
  · have h1H := Lib.hid h1
    have h2H := Lib.hid h2
    have hlmB : ((l.length : Int) != (m.length : Int)) = false := by rw [bne_eq_false_iff_eq]; omega
    have hlmH := Lib.hid hlm
    clear h1 h2 hlm
    go_enter Try.func15, Try.ntmps15
    go_wp2_with fail
    clear hlmB
    go_loopw [5] (fun s wr => ∃ k : Nat, k ≤ l.length ∧ s = .int .i64 k ∧ Hid (l.take k = m.take k) ∧ Hid (Below w.heap.size w wr)) (fun s _ => l.length - (intOf s).toNat)
    case atStart => exact ⟨0, Nat.zero_le _, rfl, rfl, Below.refl _ _⟩
    case round =>
      obtain ⟨k, hk, rfl, htk, hbr⟩ := hrel
      by_cases hkn : k < l.length
      · obtain ⟨x, hx⟩ : ∃ x, l[k]? = some x := ⟨_, List.getElem?_eq_getElem hkn⟩
        obtain ⟨y, hy⟩ : ∃ y, m[k]? = some y := ⟨_, List.getElem?_eq_getElem (by rw [← hlmH.out]; exact hkn)⟩
        obtain ⟨b1, o1, rfl, hb1, e0, e1⟩ := sh2 h1H.out hx
        obtain ⟨b2, o2, rfl, hb2, f0, f1⟩ := sh2 h2H.out hy
        have hkI : (k : Int) < (l.length : Int) := by omega
        have hkM : (k : Int) < (m.length : Int) := by have := hlmH.out; omega
        have hk0 : (0 : Int) ≤ (k : Int) := Int.natCast_nonneg _
        have htx := Lib.hid (take_step hx)
        have hty := Lib.hid (take_step hy)
        have hneq := Lib.hid (fun h => eq_at hx hy h)
        replace hx := Lib.hid hx
        replace hy := Lib.hid hy
        obtain ⟨xa, xb⟩ := x
        obtain ⟨ya, yb⟩ := y
        have m0 : wr.cell? ⟨b1, o1 + k * 2, none⟩ = some (.int .i64 xa) := (hbr.out.cell (p := ⟨b1, o1 + k * 2, none⟩) hb1).trans e0
        have m1 : wr.cell? ⟨b1, o1 + k * 2 + 1, none⟩ = some (.int .i64 xb) := (hbr.out.cell (p := ⟨b1, o1 + k * 2 + 1, none⟩) hb1).trans e1
        have n0 : wr.cell? ⟨b2, o2 + k * 2, none⟩ = some (.int .i64 ya) := (hbr.out.cell (p := ⟨b2, o2 + k * 2, none⟩) hb2).trans f0
        have n1 : wr.cell? ⟨b2, o2 + k * 2 + 1, none⟩ = some (.int .i64 yb) := (hbr.out.cell (p := ⟨b2, o2 + k * 2 + 1, none⟩) hb2).trans f1
        have heq := fun w => run_neq_sh xa xb ya yb w
        clear e0 e1 f0 f1
        by_cases hxy : ((xa, xb) : Sh) = (ya, yb)
        · have hE := shE_yes hxy
          have hnx : Hid (l.take (k + 1) = m.take (k + 1)) := by show _ = _; rw [htx.out, hty.out, htk.out, hxy]
          replace hxy := Lib.hid hxy
          go_upto_region 6 with fail
          go_quiet (fail)
          go_wp2_with fail
          go_roundw
          case rel => exact ⟨k + 1, by omega, by go_num, hnx, below_drewN hbr.out _⟩
          case measure => simp [intOf]; omega
        · have hE := shE_no hxy
          have hfin := Lib.hid (hneq.out hxy)
          replace hxy := Lib.hid hxy
          go_upto_region 6 with fail
          go_quiet (fail)
          go_wp2_with fail
          go_ret
          exact ⟨rb hfin.out.symm, below_drewN hbr.out _⟩
      · obtain rfl : k = l.length := by omega
        have hfin : Hid (decide (l = m) = true) := by
          have h := htk.out
          rw [List.take_length, List.take_of_length_le (Nat.le_of_eq hlmH.out.symm)] at h
          exact decide_eq_true h
        go_wp2_with fail
        go_ret
        exact ⟨rb hfin.out.symm, hbr.out⟩
  · have hlmB : ((l.length : Int) != (m.length : Int)) = true := by rw [bne_iff_ne]; omega
    have hfin := Lib.hid (eq_len hlm)
    clear hlm
    go_enter Try.func15, Try.ntmps15
    go_wp2_with fail
    go_ret
    exact ⟨rb hfin.out.symm, Below.refl _ _⟩
set_option maxRecDepth 100000 in
set_option maxHeartbeats 2000000 in
theorem requal (A1 A2 : Option Addr) (c1 c2 : Nat) (l m : List Nd) (w : World) (h1 : RecAt nEnc 4 w w.heap.size A1 l) (h2 : RecAt nEnc 4 w w.heap.size A2 m) (hl : l.length ≤ 100000) (hm : m.length ≤ 100000) :
    Calls Try.prog 30 #[.slice A1 l.length c1, .slice A2 m.length c2] w fun e w' => e = .returned (.bool (decide (l = m))) ∧ Below w.heap.size w w' := by
  by_cases hlm : l.length = m.length
  · have h1H := Lib.hid h1
    have h2H := Lib.hid h2
    have hlmB : ((l.length : Int) != (m.length : Int)) = false := by rw [bne_eq_false_iff_eq]; omega
    have hlmH := Lib.hid hlm
    clear h1 h2 hlm
    go_enter Try.func30, Try.ntmps30
    go_wp2_with fail
    clear hlmB
    go_loopw [5] (fun s wr => ∃ k : Nat, k ≤ l.length ∧ s = .int .i64 k ∧ Hid (l.take k = m.take k) ∧ Hid (Below w.heap.size w wr)) (fun s _ => l.length - (intOf s).toNat)
    case atStart => exact ⟨0, Nat.zero_le _, rfl, rfl, Below.refl _ _⟩
    case round =>
      obtain ⟨k, hk, rfl, htk, hbr⟩ := hrel
      by_cases hkn : k < l.length
      · obtain ⟨x, hx⟩ : ∃ x, l[k]? = some x := ⟨_, List.getElem?_eq_getElem hkn⟩
        obtain ⟨y, hy⟩ : ∃ y, m[k]? = some y := ⟨_, List.getElem?_eq_getElem (by rw [← hlmH.out]; exact hkn)⟩
        obtain ⟨b1, o1, rfl, hb1, e0, e1, e2, e3⟩ := nd4 h1H.out hx
        obtain ⟨b2, o2, rfl, hb2, f0, f1, f2, f3⟩ := nd4 h2H.out hy
        have hkI : (k : Int) < (l.length : Int) := by omega
        have hkM : (k : Int) < (m.length : Int) := by have := hlmH.out; omega
        have hk0 : (0 : Int) ≤ (k : Int) := Int.natCast_nonneg _
        have htx := Lib.hid (take_step hx)
        have hty := Lib.hid (take_step hy)
        have hneq := Lib.hid (fun h => eq_at hx hy h)
        replace hx := Lib.hid hx
        replace hy := Lib.hid hy
        obtain ⟨xp, xa, xb, xc⟩ := x
        obtain ⟨yp, ya, yb, yc⟩ := y
        have m0 : wr.cell? ⟨b1, o1 + k * 4, none⟩ = some (.int .i64 xp) := (hbr.out.cell (p := ⟨b1, o1 + k * 4, none⟩) hb1).trans e0
        have m1 : wr.cell? ⟨b1, o1 + k * 4 + 1, none⟩ = some (.int .i64 xa) := (hbr.out.cell (p := ⟨b1, o1 + k * 4 + 1, none⟩) hb1).trans e1
        have m2 : wr.cell? ⟨b1, o1 + k * 4 + 2, none⟩ = some (.int .i64 xb) := (hbr.out.cell (p := ⟨b1, o1 + k * 4 + 2, none⟩) hb1).trans e2
        have m3 : wr.cell? ⟨b1, o1 + k * 4 + 3, none⟩ = some (.int .i8 xc) := (hbr.out.cell (p := ⟨b1, o1 + k * 4 + 3, none⟩) hb1).trans e3
        have n0 : wr.cell? ⟨b2, o2 + k * 4, none⟩ = some (.int .i64 yp) := (hbr.out.cell (p := ⟨b2, o2 + k * 4, none⟩) hb2).trans f0
        have n1 : wr.cell? ⟨b2, o2 + k * 4 + 1, none⟩ = some (.int .i64 ya) := (hbr.out.cell (p := ⟨b2, o2 + k * 4 + 1, none⟩) hb2).trans f1
        have n2 : wr.cell? ⟨b2, o2 + k * 4 + 2, none⟩ = some (.int .i64 yb) := (hbr.out.cell (p := ⟨b2, o2 + k * 4 + 2, none⟩) hb2).trans f2
        have n3 : wr.cell? ⟨b2, o2 + k * 4 + 3, none⟩ = some (.int .i8 yc) := (hbr.out.cell (p := ⟨b2, o2 + k * 4 + 3, none⟩) hb2).trans f3
        have heq := fun w => run_neq_nd xp xa xb xc yp ya yb yc w
        clear e0 e1 e2 e3 f0 f1 f2 f3
        by_cases hxy : ((xp, xa, xb, xc) : Nd) = (yp, ya, yb, yc)
        · have hE := ndE_yes hxy
          have hnx : Hid (l.take (k + 1) = m.take (k + 1)) := by show _ = _; rw [htx.out, hty.out, htk.out, hxy]
          replace hxy := Lib.hid hxy
          go_upto_region 6 with fail
          go_quiet (fail)
          go_wp2_with fail
          go_roundw
          case rel => exact ⟨k + 1, by omega, by go_num, hnx, below_drewN hbr.out _⟩
          case measure => simp [intOf]; omega
        · have hE := ndE_no hxy
          have hfin := Lib.hid (hneq.out hxy)
          replace hxy := Lib.hid hxy
          go_upto_region 6 with fail
          go_quiet (fail)
          go_wp2_with fail
          go_ret
          exact ⟨rb hfin.out.symm, below_drewN hbr.out _⟩
      · obtain rfl : k = l.length := by omega
        have hfin : Hid (decide (l = m) = true) := by
          have h := htk.out
          rw [List.take_length, List.take_of_length_le (Nat.le_of_eq hlmH.out.symm)] at h
          exact decide_eq_true h
        go_wp2_with fail
        go_ret
        exact ⟨rb hfin.out.symm, hbr.out⟩
  · have hlmB : ((l.length : Int) != (m.length : Int)) = true := by rw [bne_iff_ne]; omega
    have hfin := Lib.hid (eq_len hlm)
    clear hlm
    go_enter Try.func30, Try.ntmps30
    go_wp2_with fail
    go_ret
    exact ⟨rb hfin.out.symm, Below.refl _ _⟩
set_option maxRecDepth 100000 in
set_option maxHeartbeats 2000000 in
theorem rsameI (A1 A2 : Option Addr) (c1 c2 : Nat) (l m : List Int) (w : World) (h1 : RecAt iEnc 1 w w.heap.size A1 l) (h2 : RecAt iEnc 1 w w.heap.size A2 m) (hl : l.length ≤ 100000) (hm : m.length ≤ 100000) :
    Calls Try.prog 32 #[.slice A1 l.length c1, .slice A2 m.length c2] w fun e w' => e = .returned (.bool (decide (l = m))) ∧ Below w.heap.size w w' := by
  by_cases hlm : l.length = m.length
  · have h1H := Lib.hid h1
    have h2H := Lib.hid h2
    have hlmB : ((l.length : Int) != (m.length : Int)) = false := by rw [bne_eq_false_iff_eq]; omega
    have hlmH := Lib.hid hlm
    clear h1 h2 hlm
    go_enter Try.func32, Try.ntmps32
    go_wp2_with fail
    clear hlmB
    go_loopw [5] (fun s wr => ∃ k : Nat, k ≤ l.length ∧ s = .int .i64 k ∧ Hid (l.take k = m.take k) ∧ Hid (Below w.heap.size w wr)) (fun s _ => l.length - (intOf s).toNat)
    case atStart => exact ⟨0, Nat.zero_le _, rfl, rfl, Below.refl _ _⟩
    case round =>
      obtain ⟨k, hk, rfl, htk, hbr⟩ := hrel
      by_cases hkn : k < l.length
      · obtain ⟨x, hx⟩ : ∃ x, l[k]? = some x := ⟨_, List.getElem?_eq_getElem hkn⟩
        obtain ⟨y, hy⟩ : ∃ y, m[k]? = some y := ⟨_, List.getElem?_eq_getElem (by rw [← hlmH.out]; exact hkn)⟩
        obtain ⟨b1, o1, rfl, hb1, e0⟩ := rec1 h1H.out hx
        obtain ⟨b2, o2, rfl, hb2, f0⟩ := rec1 h2H.out hy
        have hkI : (k : Int) < (l.length : Int) := by omega
        have hkM : (k : Int) < (m.length : Int) := by have := hlmH.out; omega
        have hk0 : (0 : Int) ≤ (k : Int) := Int.natCast_nonneg _
        have htx := Lib.hid (take_step hx)
        have hty := Lib.hid (take_step hy)
        have hneq := Lib.hid (fun h => eq_at hx hy h)
        replace hx := Lib.hid hx
        replace hy := Lib.hid hy
        have m0 : wr.cell? ⟨b1, o1 + k, none⟩ = some (.int .i64 x) := (hbr.out.cell (p := ⟨b1, o1 + k, none⟩) hb1).trans e0
        have n0 : wr.cell? ⟨b2, o2 + k, none⟩ = some (.int .i64 y) := (hbr.out.cell (p := ⟨b2, o2 + k, none⟩) hb2).trans f0
        clear e0 f0
        by_cases hxy : x = y
        · have hE : (x != y) = false := by rw [bne_eq_false_iff_eq]; exact hxy
          have hnx : Hid (l.take (k + 1) = m.take (k + 1)) := by show _ = _; rw [htx.out, hty.out, htk.out, hxy]
          replace hxy := Lib.hid hxy
          go_upto_region 6 with fail
          go_quiet (fail)
          go_wp2_with fail
          go_roundw
          case rel => exact ⟨k + 1, by omega, by go_num, hnx, below_drewN hbr.out _⟩
          case measure => simp [intOf]; omega
        · have hE : (x != y) = true := by rw [bne_iff_ne]; exact hxy
          have hfin := Lib.hid (hneq.out hxy)
          replace hxy := Lib.hid hxy
          go_upto_region 6 with fail
          go_quiet (fail)
          go_wp2_with fail
          go_ret
          exact ⟨rb hfin.out.symm, below_drewN hbr.out _⟩
      · obtain rfl : k = l.length := by omega
        have hfin : Hid (decide (l = m) = true) := by
          have h := htk.out
          rw [List.take_length, List.take_of_length_le (Nat.le_of_eq hlmH.out.symm)] at h
          exact decide_eq_true h
        go_wp2_with fail
        go_ret
        exact ⟨rb hfin.out.symm, hbr.out⟩
  · have hlmB : ((l.length : Int) != (m.length : Int)) = true := by rw [bne_iff_ne]; omega
    have hfin := Lib.hid (eq_len hlm)
    clear hlm
    go_enter Try.func32, Try.ntmps32
    go_wp2_with fail
    go_ret
    exact ⟨rb hfin.out.symm, Below.refl _ _⟩
theorem requal2 (A1 A2 : Option Addr) (c1 c2 : Nat) (l m : List Nd) (w : World) (h1 : RecAt nEnc 4 w w.heap.size A1 l) (h2 : RecAt nEnc 4 w w.heap.size A2 m) (hl : l.length ≤ 100000) (hm : m.length ≤ 100000) :
    Calls Try.prog 10 #[.slice A1 l.length c1, .slice A2 m.length c2] w fun e w' => e = .returned (.bool (decide (l = m))) ∧ Below w.heap.size w w' := by
  have h1H := Lib.hid h1
  have h2H := Lib.hid h2
  clear h1 h2
  go_enter Try.func10, Try.ntmps10
  go_wp2_with (go_at_call 30; refine (requal _ _ _ _ _ _ _ h1H.out h2H.out hl hm).mono ?_; rintro e w' ⟨rfl, hbv⟩; replace hbv := Lib.hid hbv)
  go_ret
  exact ⟨rfl, hbv.out⟩
theorem rsameI2 (A1 A2 : Option Addr) (c1 c2 : Nat) (l m : List Int) (w : World) (h1 : RecAt iEnc 1 w w.heap.size A1 l) (h2 : RecAt iEnc 1 w w.heap.size A2 m) (hl : l.length ≤ 100000) (hm : m.length ≤ 100000) :
    Calls Try.prog 12 #[.slice A1 l.length c1, .slice A2 m.length c2] w fun e w' => e = .returned (.bool (decide (l = m))) ∧ Below w.heap.size w w' := by
  have h1H := Lib.hid h1
  have h2H := Lib.hid h2
  clear h1 h2
  go_enter Try.func12, Try.ntmps12
  go_wp2_with (go_at_call 32; refine (rsameI _ _ _ _ _ _ _ h1H.out h2H.out hl hm).mono ?_; rintro e w' ⟨rfl, hbv⟩; replace hbv := Lib.hid hbv)
  go_ret
  exact ⟨rfl, hbv.out⟩
end Go.Proofs.Yteaclphankckiaa
