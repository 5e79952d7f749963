/- Layer 1: a square of a set, any number; the set of squares that are not all valid. -/
import Derived.Test.YtjjchodcoeciaaaDoorQz
namespace Go.Proofs.YtjjchodcoeciaaaDoor
open Go.RowKit
set_option linter.unusedSimpArgs false
set_option linter.unusedVariables false

/-- whether a set has a square -/
def hasB (m : Nat) (a : Int) : Bool := decide (0 ≤ a ∧ a < 64) && m.testBit a.toNat
theorem hasB_out {m : Nat} {a : Int} (h : a < 0 ∨ 64 ≤ a) : hasB m a = false := by unfold hasB; rw [decide_eq_false (by omega)]; rfl
theorem hasB_in {m : Nat} {a : Int} (h0 : 0 ≤ a) (h1 : a < 64) : hasB m a = m.testBit a.toNat := by unfold hasB; rw [decide_eq_true ⟨h0, h1⟩]; rfl
theorem rhasI (m : Nat) (a : Int) (w : World) : Calls Tryd.prog 38 #[.int .u64 (m : Int), .int .i64 a] w fun e w' => e = .returned (.bool (hasB m a)) ∧ w = w' := by
  by_cases h0 : a < 0
  · have hb := Lib.hid (hasB_out (m := m) (.inl h0))
    go_enter Tryd.func38, Tryd.ntmps38
    go_wp2
    go_ret
    exact ⟨by rw [hb.out]; rfl, rfl⟩
  · by_cases h1 : 64 ≤ a
    · have hb := Lib.hid (hasB_out (m := m) (.inr h1))
      go_enter Tryd.func38, Tryd.ntmps38
      go_wp2
      go_ret
      exact ⟨by rw [hb.out]; rfl, rfl⟩
    · obtain ⟨k, rfl⟩ : ∃ k : Nat, a = (k : Int) := ⟨a.toNat, by omega⟩
      rw [hasB_in (by omega) (by omega)]
      exact rhas m k w (by omega)
theorem phas (m : Nat) (hm : m < 18446744073709551616) (a : Int) (w : World) : Calls Tryd.prog 37 #[.int .u64 (m : Int), .int .i64 a] w fun e w' => e = .returned (.bool (hasB m a)) ∧ w = w' := by
  by_cases h0 : a < 0
  · have hb := Lib.hid (hasB_out (m := m) (.inl h0))
    go_enter Tryd.func37, Tryd.ntmps37
    go_wp2
    go_ret
    exact ⟨by rw [hb.out]; rfl, rfl⟩
  · by_cases h1 : 64 ≤ a
    · have hb := Lib.hid (hasB_out (m := m) (.inr h1))
      go_enter Tryd.func37, Tryd.ntmps37
      go_wp2
      go_ret
      exact ⟨by rw [hb.out]; rfl, rfl⟩
    · obtain ⟨k, rfl⟩ : ∃ k : Nat, a = (k : Int) := ⟨a.toNat, by omega⟩
      rw [hasB_in (by omega) (by omega)]
      have hd : (m : Int) / 2 ^ k = ((m / 2 ^ k : Nat) : Int) := by simp
      have hd' : (m : Int) / 2 ^ (k : Int).toNat = ((m / 2 ^ k : Nat) : Int) := by simp
      have ht := Nat.testBit_eq_decide_div_mod_eq (x := m) (i := k)
      have hlt : m / 2 ^ k < 18446744073709551616 := Nat.lt_of_le_of_lt (Nat.div_le_self _ _) hm
      rw [show (k : Int).toNat = k by simp]
      generalize m / 2 ^ k = q at *
      have hand : bits BinOp.and IntKind.u64 (q : Int) 1 = ((q % 2 : Nat) : Int) := by
        have := bits_and_u64_nat q 1 hlt (by decide)
        rw [Nat.and_one_is_mod] at this
        exact this
      rcases (by omega : q % 2 = 0 ∨ q % 2 = 1) with h | h
      · have hb : Hid (m.testBit k = false) := by unfold Hid; rw [ht]; simp [h]
        have hand' : bits BinOp.and IntKind.u64 (q : Int) 1 = 0 := by rw [hand, h]; rfl
        clear ht hand h
        go_enter Tryd.func37, Tryd.ntmps37
        go_wp2
        go_ret
        exact ⟨by rw [hb.out]; rfl, rfl⟩
      · have hb : Hid (m.testBit k = true) := by unfold Hid; rw [ht]; simp [h]
        have hand' : bits BinOp.and IntKind.u64 (q : Int) 1 = 1 := by rw [hand, h]; rfl
        clear ht hand h
        go_enter Tryd.func37, Tryd.ntmps37
        go_wp2
        go_ret
        exact ⟨by rw [hb.out]; rfl, rfl⟩

theorem pof_sz (f r : Int) (A : Option Addr) (n cap : Nat) (w : World) (hs : szB f r = false) :
    Calls Tryd.prog 34 #[.agg #[.int .i64 f, .int .i64 r], .slice A n cap] w fun e w' => e = .returned (.tuple #[.int .u64 0, .int .i64 2]) ∧ Below w.heap.size w w' := by
  go_enter Tryd.func34, Tryd.ntmps34
  go_wp2_with (go_at_call 12; refine (pvsize _ _ _).mono ?_; rintro e w1 ⟨rfl, hb1⟩; rw [hs]; obtain ⟨q0, q1, q2⟩ := box_cells hb1; have hbH := Lib.hid (below_box hb1); clear hb1)
  go_ret2
  exact ⟨rfl, hbH.out⟩
theorem pof_gen (f r : Int) (A : Option Addr) (cap : Nat) (l : List Int) (w : World) (hs : szB f r = true) (hlen : l.length < 1000)
    (hg : RecAt iEnc 1 w w.heap.size A l) :
    Calls Tryd.prog 34 #[.agg #[.int .i64 f, .int .i64 r], .slice A l.length cap] w fun e w' => e = .returned (if ∀ j, j < l.length → sqB f r (l.getD j 0) = true then .tuple #[.int .u64 (ofL l l.length : Nat), .int .i64 0] else .tuple #[.int .u64 0, .int .i64 2]) ∧ Below w.heap.size w w' := by
  by_cases hl : ∀ j, j < l.length → sqB f r (l.getD j 0) = true
  · rw [if_pos hl]
    rcases Nat.eq_zero_or_pos l.length with h0 | h0
    · rw [List.eq_nil_of_length_eq_zero h0]
      go_enter Tryd.func34, Tryd.ntmps34
      go_wp2_with (go_at_call 12; refine (pvsize _ _ _).mono ?_; rintro e w1 ⟨rfl, hb1⟩; rw [hs]; obtain ⟨q0, q1, q2⟩ := box_cells hb1; have hbH := Lib.hid (below_box hb1); clear hb1)
      go_loopw [6, 14] (fun s i wr => i = .int .i64 0 ∧ s = .int .u64 0 ∧ Hid (Below w.heap.size w wr)) (fun _ i _ => 0)
      case atStart => exact ⟨rfl, rfl, hbH⟩
      case round =>
        obtain ⟨rfl, rfl, hbw⟩ := hrel
        go_wp2
        go_ret2
        exact ⟨rfl, hbw.out⟩
    · obtain ⟨b, off, rfl, hb, hc⟩ := hg h0
      exact pof_yes f r b off cap l w hs hl hlen hb (fun j hj => by
        have := hc j (l.getD j 0) (by rw [List.getElem?_eq_getElem hj, List.getD_eq_getElem?_getD, List.getElem?_eq_getElem hj]; rfl) 0 _ rfl
        simpa using this)
  · rw [if_neg hl]
    obtain ⟨n, hn, hbad⟩ : ∃ n, n < l.length ∧ sqB f r (l.getD n 0) = false := by
      simp only [Classical.not_forall] at hl
      obtain ⟨n, hn, h⟩ := hl
      exact ⟨n, hn, by simpa using h⟩
    obtain ⟨b, off, rfl, hb, hc0⟩ := hg (by omega)
    have hcH := Lib.hid (fun (j : Nat) (hj : j < l.length) => by
        have := hc0 j (l.getD j 0) (by rw [List.getElem?_eq_getElem hj, List.getD_eq_getElem?_getD, List.getElem?_eq_getElem hj]; rfl) 0 _ rfl
        simpa using this : ∀ j, j < l.length → w.cell? ⟨b, off + j, none⟩ = some (.int .i64 (l.getD j 0)))
    have hbadH := Lib.hid hbad
    obtain ⟨f0, f1, r0, r1⟩ := szB_out hs
    obtain ⟨m0, m1⟩ := mul_bd f0 f1 r0 r1
    clear hl hg hc0 hbad
    go_enter Tryd.func34, Tryd.ntmps34
    go_wp2_with (go_at_call 12; refine (pvsize _ _ _).mono ?_; rintro e w1 ⟨rfl, hb1⟩; obtain ⟨q0, q1, q2⟩ := box_cells hb1; have hbH := Lib.hid (below_box hb1); clear hb1)
    go_loopw [6, 14] (fun s i wr => ∃ (k : Nat) (v : Int), k ≤ n ∧ i = .int .i64 k ∧ s = .int .u64 v ∧ wr.cell? ⟨w.heap.size, 0, none⟩ = some (.int .i64 f) ∧ wr.cell? ⟨w.heap.size, 1, none⟩ = some (.int .i64 r) ∧ w.heap.size < wr.heap.size ∧ Hid (Below w.heap.size w wr)) (fun _ i _ => l.length - (intOf i).toNat)
    case atStart => exact ⟨0, 0, by omega, rfl, rfl, q0, q1, q2, hbH⟩
    case round =>
      obtain ⟨k, v, hk, rfl, rfl, c0, c1, hsz, hbw⟩ := hrel
      have hkl : k < l.length := by omega
      have hcell : wr.cell? ⟨b, off + k, none⟩ = some (.int .i64 (l.getD k 0)) := (hbw.out.cell (p := ⟨b, off + k, none⟩) hb).trans (hcH.out k hkl)
      rcases hq : sqB f r (l.getD k 0) with _ | _
      · have hsq := Lib.hid hq
        generalize l.getD k 0 = a at hcell hsq hq
        clear hq
        go_wp2_with (go_at_call 14; refine (pvalidsq _ _ _ _).mono ?_; rintro e w2 ⟨rfl, hb2⟩; rw [hsq.out]; have hbH2 := Lib.hid (hbw.out.trans (hb2.mono hbw.out.size)); clear hb2)
        go_ret2
        exact ⟨rfl, hbH2.out⟩
      · have hkn : k < n := by
          rcases Nat.lt_or_ge k n with h | h
          · exact h
          · have : k = n := by omega
            subst this; rw [hbadH.out] at hq; cases hq
        have hsq := Lib.hid hq
        obtain ⟨_, a0, a1⟩ := sqB_out hq
        have a2 : l.getD k 0 < 64 := by omega
        generalize l.getD k 0 = a at hcell hsq hq a0 a1 a2
        clear hq
        go_wp2_with (go_at_call 14; refine (pvalidsq _ _ _ _).mono ?_; rintro e w2 ⟨rfl, hb2⟩; rw [hsq.out]; have hbH2 := Lib.hid (hbw.out.trans (hb2.mono hbw.out.size)); have d0 := (hb2.cell (p := ⟨w.heap.size, 0, none⟩) hsz).trans c0; have d1 := (hb2.cell (p := ⟨w.heap.size, 1, none⟩) hsz).trans c1; have hsz2 := Nat.lt_of_lt_of_le hsz hb2.size; clear hb2)
        go_roundw
        case rel => exact ⟨k + 1, _, by omega, rfl, rfl, d0, d1, hsz2, hbH2⟩
        case measure => simp [intOf]; omega
end Go.Proofs.YtjjchodcoeciaaaDoor
