/- Layer 1: sets of some squares; sizes. -/
import Derived.Test.YtjjchodcoeciaaaDoorQh
namespace Go.Proofs.YtjjchodcoeciaaaDoor
open Go.RowKit
set_option linter.unusedSimpArgs false
set_option linter.unusedVariables false

theorem ksize (f r : Int) (w : World) : Calls Tryd.prog 41 #[.int .i64 f, .int .i64 r] w fun e w' => e = .returned (.agg #[.int .i64 f, .int .i64 r]) ∧ Below w.heap.size w w' := by
  go_enter Tryd.func41, Tryd.ntmps41
  go_wp2
  exact bodyPost_ret (v := .agg #[.int .i64 f, .int .i64 r]) (by simp [results, Tryd.results41, go_sem]) rfl ⟨rfl, ((Below.refl _ _).alloc (Nat.le_refl _) _)⟩

/-- the set of the first k squares of a list -/
def ofL (l : List Int) (k : Nat) : Nat := (l.take k).foldl (fun acc a => acc ||| 1 <<< a.toNat) 0
theorem ofL_succ {l : List Int} {k : Nat} (h : k < l.length) : ofL l (k + 1) = ofL l k ||| 1 <<< (l.getD k 0).toNat := by
  unfold ofL
  rw [List.take_add_one, List.foldl_append]
  simp [h]
theorem ofL_lt {l : List Int} (hl : ∀ j, j < l.length → 0 ≤ l.getD j 0 ∧ l.getD j 0 < 64) : ∀ k, k ≤ l.length → ofL l k < 18446744073709551616 := by
  intro k
  induction k with
  | zero => intro _; simp [ofL]
  | succ k ih =>
    intro hk
    rw [ofL_succ hk]
    obtain ⟨a0, a1⟩ := hl k hk
    refine Nat.or_lt_two_pow (n := 64) (ih (by omega)) ?_
    rw [Nat.shiftLeft_eq, Nat.one_mul]
    exact Nat.pow_lt_pow_right (by decide) (by omega)
set_option maxHeartbeats 1000000 in
theorem pof_yes (f r : Int) (b off cap : Nat) (l : List Int) (w : World) (hs : szB f r = true) (hl : ∀ j, j < l.length → sqB f r (l.getD j 0) = true) (hlen : l.length < 1000) (hb : b < w.heap.size)
    (hc : ∀ j, j < l.length → w.cell? ⟨b, off + j, none⟩ = some (.int .i64 (l.getD j 0))) :
    Calls Tryd.prog 34 #[.agg #[.int .i64 f, .int .i64 r], .slice (some ⟨b, off, none⟩) l.length cap] w fun e w' => e = .returned (.tuple #[.int .u64 (ofL l l.length : Nat), .int .i64 0]) ∧ Below w.heap.size w w' := by
  obtain ⟨f0, f1, r0, r1⟩ := szB_out hs
  obtain ⟨m0, m1⟩ := mul_bd f0 f1 r0 r1
  have hin : Hid (∀ j, j < l.length → 0 ≤ l.getD j 0 ∧ l.getD j 0 < 64) := fun j hj => by
    have h := sqB_out (hl j hj)
    exact ⟨h.2.1, by have := h.2.2; omega⟩
  have hlH := Lib.hid hl
  have hcH := Lib.hid hc
  have hltH := Lib.hid (ofL_lt hin.out)
  clear hl hc
  go_enter Tryd.func34, Tryd.ntmps34
  go_wp2_with (go_at_call 12; refine (pvsize _ _ _).mono ?_; rintro e w1 ⟨rfl, hb1⟩; obtain ⟨q0, q1, q2⟩ := box_cells hb1; have hbH := Lib.hid (below_box hb1); clear hb1)
  go_loopw [6, 14] (fun s i wr => ∃ k : Nat, k ≤ l.length ∧ i = .int .i64 k ∧ s = .int .u64 (ofL l k : Nat) ∧ wr.cell? ⟨w.heap.size, 0, none⟩ = some (.int .i64 f) ∧ wr.cell? ⟨w.heap.size, 1, none⟩ = some (.int .i64 r) ∧ w.heap.size < wr.heap.size ∧ Hid (Below w.heap.size w wr)) (fun _ i _ => l.length - (intOf i).toNat)
  case atStart => exact ⟨0, by omega, rfl, rfl, q0, q1, q2, hbH⟩
  case round =>
    obtain ⟨k, hk, rfl, rfl, c0, c1, hsz, hbw⟩ := hrel
    by_cases hkl : k < l.length
    · have hcell : wr.cell? ⟨b, off + k, none⟩ = some (.int .i64 (l.getD k 0)) := (hbw.out.cell (p := ⟨b, off + k, none⟩) hb).trans (hcH.out k hkl)
      have hsq := Lib.hid (hlH.out k hkl)
      have hor : Hid (bits BinOp.or IntKind.u64 (ofL l k : Int) (IntKind.u64.wrap (2 ^ (l.getD k 0).toNat)) = (ofL l (k + 1) : Nat)) := by
        obtain ⟨a0, a1⟩ := hin.out k hkl
        rw [ofL_succ hkl]
        exact or_shift (hltH.out k hk) a0 a1
      obtain ⟨a0, a1⟩ := hin.out k hkl
      generalize l.getD k 0 = a at hcell hsq hor a0 a1
      have hor' := hor.out
      go_wp2_with (go_at_call 14; refine (pvalidsq _ _ _ _).mono ?_; rintro e w2 ⟨rfl, hb2⟩; rw [hsq.out]; have hbH2 := Lib.hid (hbw.out.trans (hb2.mono hbw.out.size)); have d0 := (hb2.cell (p := ⟨w.heap.size, 0, none⟩) hsz).trans c0; have d1 := (hb2.cell (p := ⟨w.heap.size, 1, none⟩) hsz).trans c1; have hsz2 := Nat.lt_of_lt_of_le hsz hb2.size; clear hb2)
      go_roundw
      case rel => exact ⟨k + 1, by omega, rfl, rfl, d0, d1, hsz2, hbH2⟩
      case measure => simp [intOf]; omega
    · obtain rfl : k = l.length := by omega
      go_wp2
      go_ret2
      exact ⟨rfl, hbw.out⟩
end Go.Proofs.YtjjchodcoeciaaaDoor
