/- Layer 1: the reference's search for a name. -/
import Derived.Test.YtjjchodcoeciaaaDoorQe
namespace Go.Proofs.YtjjchodcoeciaaaDoor
open Go.RowKit
set_option linter.unusedSimpArgs false
set_option linter.unusedVariables false

theorem bx_inj {a b : Int} (a0 : 0 ≤ a) (a1 : a < 256) (b0 : 0 ≤ b) (b1 : b < 256) (h : bx a = bx b) : a = b := by
  rw [bx_of a0 a1, bx_of b0 b1, h]
theorem nm_inj {x y x' y' : Int} (hx : 0 ≤ x ∧ x < 8) (hy : 0 ≤ y ∧ y < 8) (hx' : 0 ≤ x' ∧ x' < 8) (hy' : 0 ≤ y' ∧ y' < 8) (h : nm x y = nm x' y') : x = x' ∧ y = y' := by
  unfold nm at h
  injection h with h
  have h1 : bx (97 + x) = bx (97 + x') := by
    have := congrArg (fun a : Array UInt8 => a[0]?) h
    simpa using this
  have h2 : bx (49 + y) = bx (49 + y') := by
    have := congrArg (fun a : Array UInt8 => a[1]?) h
    simpa using this
  have e1 := bx_inj (by omega) (by omega) (by omega) (by omega) h1
  have e2 := bx_inj (by omega) (by omega) (by omega) (by omega) h2
  omega
theorem nm_sq {f r a b : Int} (ha : sqB f r a = true) (hb : sqB f r b = true) (h : nm (a % f) (a / f) = nm (b % f) (b / f)) : a = b := by
  obtain ⟨f0, f1, r0, r1⟩ := szB_out (sqB_out ha).1
  obtain ⟨a1, a2, a3, a4, a5⟩ := place_bd ha
  obtain ⟨b1, b2, b3, b4, b5⟩ := place_bd hb
  obtain ⟨e1, e2⟩ := nm_inj ⟨a1, by omega⟩ ⟨a3, by omega⟩ ⟨b1, by omega⟩ ⟨b3, by omega⟩ h
  rw [← a5, ← b5, e1, e2]
theorem list_eq {a b : ByteArray} (h : a.toList = b.toList) : a = b := by
  rw [ByteArray.toList_eq, ByteArray.toList_eq] at h
  obtain ⟨⟨a⟩⟩ := a
  obtain ⟨⟨b⟩⟩ := b
  simp only at h
  rw [h]
theorem list_ne {a b : ByteArray} (h : a ≠ b) : (a.toList == b.toList) = false := by
  rw [beq_eq_false_iff_ne]
  exact fun e => h (list_eq e)

set_option maxHeartbeats 1000000 in
theorem rparse_yes (f r n : Int) (s : ByteArray) (w : World) (hs : sqB f r n = true) (hn : nm (n % f) (n / f) = s) : Calls Tryd.prog 27 #[.agg #[.int .i64 f, .int .i64 r], .string s] w fun e w' => e = .returned (.int .i64 n) ∧ Below w.heap.size w w' := by
  obtain ⟨hz, n0, n1⟩ := sqB_out hs
  obtain ⟨f0, f1, r0, r1⟩ := szB_out hz
  obtain ⟨m0, m1⟩ := mul_bd f0 f1 r0 r1
  have hne : Hid (∀ k : Int, sqB f r k = true → k ≠ n → ((nm (k % f) (k / f)).toList == s.toList) = false) := fun k hk hkn => list_ne (fun e => hkn (nm_sq hk hs (e.trans hn.symm)))
  have heq : Hid (((nm (n % f) (n / f)).toList == s.toList) = true) := by unfold Hid; rw [hn]; simp
  have hsH := Lib.hid hs
  clear hn hs
  go_enter Tryd.func27, Tryd.ntmps27
  go_wp2
  go_loopw [5] (fun i wr => ∃ k : Int, 0 ≤ k ∧ k ≤ n ∧ i = .int .i64 k ∧ wr.cell? ⟨w.heap.size, 0, none⟩ = some (.int .i64 f) ∧ wr.cell? ⟨w.heap.size, 1, none⟩ = some (.int .i64 r) ∧ w.heap.size < wr.heap.size ∧ Hid (Below w.heap.size w wr)) (fun i _ => (n - intOf i).toNat)
  case atStart => exact ⟨0, by omega, by omega, rfl, by simp, by simp, by simp, (Below.refl _ _).alloc (Nat.le_refl _) _⟩
  case round =>
    obtain ⟨k, k0, k1, rfl, c0, c1, hsz, hbH⟩ := hrel
    have hsk : sqB f r k = true := by rw [sqB_in hz]; exact decide_eq_true ⟨k0, by omega⟩
    have hskH := Lib.hid hsk
    clear hsk
    by_cases hk : k = n
    · subst hk
      have hb := heq.out
      go_wp2_with (go_at_call 25; refine (rname_yes _ _ _ _ hskH.out).mono ?_; rintro e w1 ⟨rfl, hb1⟩; have hbH1 := Lib.hid (hbH.out.trans (hb1.mono hbH.out.size)); clear hb1)
      go_ret
      exact ⟨rfl, hbH1.out⟩
    · have hb := hne.out k hskH.out hk
      have hlt : k < n := by omega
      clear hk
      go_wp2_with (go_at_call 25; refine (rname_yes _ _ _ _ hskH.out).mono ?_; rintro e w1 ⟨rfl, hb1⟩; have hbH1 := Lib.hid (hbH.out.trans (hb1.mono hbH.out.size)); have d0 := (hb1.cell (p := ⟨w.heap.size, 0, none⟩) hsz).trans c0; have d1 := (hb1.cell (p := ⟨w.heap.size, 1, none⟩) hsz).trans c1; have hsz1 := Nat.lt_of_lt_of_le hsz hb1.size; clear hb1)
      go_roundw
      case rel => exact ⟨k + 1, by omega, by omega, rfl, d0, d1, hsz1, hbH1⟩
      case measure => simp [intOf]; omega
set_option maxHeartbeats 1000000 in
theorem rparse_no (f r : Int) (s : ByteArray) (w : World) (hz : szB f r = true) (hn : ∀ k : Int, sqB f r k = true → nm (k % f) (k / f) ≠ s) : Calls Tryd.prog 27 #[.agg #[.int .i64 f, .int .i64 r], .string s] w fun e w' => e = .returned (.int .i64 (-1)) ∧ Below w.heap.size w w' := by
  obtain ⟨f0, f1, r0, r1⟩ := szB_out hz
  obtain ⟨m0, m1⟩ := mul_bd f0 f1 r0 r1
  have hne : Hid (∀ k : Int, sqB f r k = true → ((nm (k % f) (k / f)).toList == s.toList) = false) := fun k hk => list_ne (hn k hk)
  clear hn
  go_enter Tryd.func27, Tryd.ntmps27
  go_wp2
  go_loopw [5] (fun i wr => ∃ k : Int, 0 ≤ k ∧ k ≤ f * r ∧ i = .int .i64 k ∧ wr.cell? ⟨w.heap.size, 0, none⟩ = some (.int .i64 f) ∧ wr.cell? ⟨w.heap.size, 1, none⟩ = some (.int .i64 r) ∧ w.heap.size < wr.heap.size ∧ Hid (Below w.heap.size w wr)) (fun i _ => (f * r - intOf i).toNat)
  case atStart => exact ⟨0, by omega, by omega, rfl, by simp, by simp, by simp, (Below.refl _ _).alloc (Nat.le_refl _) _⟩
  case round =>
    obtain ⟨k, k0, k1, rfl, c0, c1, hsz, hbH⟩ := hrel
    by_cases hk : k < f * r
    · have hsk : sqB f r k = true := by rw [sqB_in hz]; exact decide_eq_true ⟨k0, by omega⟩
      have hskH := Lib.hid hsk
      have hb := hne.out k hsk
      clear hsk
      go_wp2_with (go_at_call 25; refine (rname_yes _ _ _ _ hskH.out).mono ?_; rintro e w1 ⟨rfl, hb1⟩; have hbH1 := Lib.hid (hbH.out.trans (hb1.mono hbH.out.size)); have d0 := (hb1.cell (p := ⟨w.heap.size, 0, none⟩) hsz).trans c0; have d1 := (hb1.cell (p := ⟨w.heap.size, 1, none⟩) hsz).trans c1; have hsz1 := Nat.lt_of_lt_of_le hsz hb1.size; clear hb1)
      go_roundw
      case rel => exact ⟨k + 1, by omega, by omega, rfl, d0, d1, hsz1, hbH1⟩
      case measure => simp [intOf]; omega
    · go_wp2
      go_ret
      exact ⟨rfl, hbH.out⟩
end Go.Proofs.YtjjchodcoeciaaaDoor
