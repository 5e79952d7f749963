/- The contracts of piece's functions on names, and of the reference's beside them. -/
import Derived.Test.YtmlbaghbdhogpaaDoorPd
namespace Go.Proofs.YtmlbaghbdhogpaaDoor
open Go.RowKit
set_option linter.unusedSimpArgs false
set_option linter.unusedVariables false

theorem pname_yes (p : Int) (w : World) (hk : KindsAt w) (h1 : 1 ≤ p) (h2 : p ≤ 15) : Calls Tryd.prog 20 #[.int .i8 p] w fun e w' => e = .returned (.tuple #[.string ⟨(namAt (p.toNat - 1)).toArray⟩, .int .i64 0]) ∧ w = w' := by
  have hc := hk.name (p.toNat - 1) (by omega)
  clear hk
  go_enter Tryd.func20, Tryd.ntmps20
  go_wp2
  go_ret2
  exact ⟨rfl, rfl⟩
theorem pname_no (p : Int) (w : World) (h : p < 1 ∨ 15 < p) : Calls Tryd.prog 20 #[.int .i8 p] w fun e w' => e = .returned (.tuple #[.string ⟨#[]⟩, .int .i64 2]) ∧ w = w' := by
  rcases h with h | h
  · go_enter Tryd.func20, Tryd.ntmps20
    go_wp2
    go_ret2
    exact ⟨rfl, rfl⟩
  · have h' : 1 ≤ p := by omega
    go_enter Tryd.func20, Tryd.ntmps20
    go_wp2
    go_ret2
    exact ⟨rfl, rfl⟩
theorem pmake_yes (p : Int) (b : Bool) (w : World) (h1 : 1 ≤ p) (h2 : p ≤ 15) : Calls Tryd.prog 19 #[.int .i8 p, .bool b] w fun e w' => e = .returned (.tuple #[.int .i8 (cond b (-p) p), .int .i64 0]) ∧ w = w' := by
  cases b
  all_goals
    go_enter Tryd.func19, Tryd.ntmps19
    go_wp2
    go_ret2
    exact ⟨rfl, rfl⟩
theorem pmake_no (p : Int) (b : Bool) (w : World) (h : p < 1 ∨ 15 < p) : Calls Tryd.prog 19 #[.int .i8 p, .bool b] w fun e w' => e = .returned (.tuple #[.int .i8 0, .int .i64 2]) ∧ w = w' := by
  rcases h with h | h
  · go_enter Tryd.func19, Tryd.ntmps19
    go_wp2
    go_ret2
    exact ⟨rfl, rfl⟩
  · have h' : 1 ≤ p := by omega
    go_enter Tryd.func19, Tryd.ntmps19
    go_wp2
    go_ret2
    exact ⟨rfl, rfl⟩

/-- a string of one byte that was just laid -/
theorem conv1 (w : World) (b : UInt8) (n : Int) (hn : n = (b.toNat : Int)) : (convert 51 9 (.slice (some ⟨w.heap.size, 0, none⟩) 1 1)).run Tryd.prog (w.alloc (.cells #[.int .u8 n] 5)) = .ok (.string ⟨#[b]⟩) (w.alloc (.cells #[.int .u8 n] 5)) := by
  subst hn
  refine run_convert_bytes_back (P := Tryd.prog) (w.alloc (.cells #[.int .u8 (b.toNat : Int)] 5)) 51 9 5 ⟨w.heap.size, 0, none⟩ 1 [b] Tryd.underlying51 Tryd.underlying5 Tryd.underlying9 ?_
  intro j hj
  obtain rfl : j = 0 := by simp at hj; omega
  simp [Addr.add]
theorem rname_1 (w : World) : Calls Tryd.prog 21 #[.int .i8 1] w fun e w' => e = .returned (.string ⟨(namAt 0).toArray⟩) ∧ Below w.heap.size w w' := by
  go_enter Tryd.func21, Tryd.ntmps21
  go_wp2
  go_ret
  exact ⟨rfl, (Below.refl _ _).alloc (Nat.le_refl _) _⟩
theorem rname_2 (w : World) : Calls Tryd.prog 21 #[.int .i8 2] w fun e w' => e = .returned (.string ⟨(namAt 1).toArray⟩) ∧ Below w.heap.size w w' := by
  go_enter Tryd.func21, Tryd.ntmps21
  go_wp2
  go_ret
  exact ⟨rfl, (Below.refl _ _).alloc (Nat.le_refl _) _⟩
theorem rname_3 (w : World) : Calls Tryd.prog 21 #[.int .i8 3] w fun e w' => e = .returned (.string ⟨(namAt 2).toArray⟩) ∧ Below w.heap.size w w' := by
  go_enter Tryd.func21, Tryd.ntmps21
  go_wp2
  go_ret
  exact ⟨rfl, (Below.refl _ _).alloc (Nat.le_refl _) _⟩
theorem rname_4 (w : World) : Calls Tryd.prog 21 #[.int .i8 4] w fun e w' => e = .returned (.string ⟨(namAt 3).toArray⟩) ∧ Below w.heap.size w w' := by
  go_enter Tryd.func21, Tryd.ntmps21
  go_wp2
  go_ret
  exact ⟨rfl, (Below.refl _ _).alloc (Nat.le_refl _) _⟩
theorem rname_5 (w : World) : Calls Tryd.prog 21 #[.int .i8 5] w fun e w' => e = .returned (.string ⟨(namAt 4).toArray⟩) ∧ Below w.heap.size w w' := by
  go_enter Tryd.func21, Tryd.ntmps21
  go_wp2
  go_ret
  exact ⟨rfl, (Below.refl _ _).alloc (Nat.le_refl _) _⟩
theorem rname_6 (w : World) : Calls Tryd.prog 21 #[.int .i8 6] w fun e w' => e = .returned (.string ⟨(namAt 5).toArray⟩) ∧ Below w.heap.size w w' := by
  go_enter Tryd.func21, Tryd.ntmps21
  go_wp2
  go_ret
  exact ⟨rfl, (Below.refl _ _).alloc (Nat.le_refl _) _⟩
theorem rname_7 (w : World) : Calls Tryd.prog 21 #[.int .i8 7] w fun e w' => e = .returned (.string ⟨(namAt 6).toArray⟩) ∧ Below w.heap.size w w' := by
  have hl : letV (-7) = 97 := rfl
  have hcv := conv1 w 97 97 rfl
  go_enter Tryd.func21, Tryd.ntmps21
  go_wp2_with (first | (go_at_call 23; refine (rletter_neg _ _ (by omega) (by omega)).mono ?_; rintro e w' ⟨rfl, rfl⟩))
  go_ret
  exact ⟨rfl, (Below.refl _ _).alloc (Nat.le_refl _) _⟩
theorem rname_8 (w : World) : Calls Tryd.prog 21 #[.int .i8 8] w fun e w' => e = .returned (.string ⟨(namAt 7).toArray⟩) ∧ Below w.heap.size w w' := by
  have hl : letV (-8) = 99 := rfl
  have hcv := conv1 w 99 99 rfl
  go_enter Tryd.func21, Tryd.ntmps21
  go_wp2_with (first | (go_at_call 23; refine (rletter_neg _ _ (by omega) (by omega)).mono ?_; rintro e w' ⟨rfl, rfl⟩))
  go_ret
  exact ⟨rfl, (Below.refl _ _).alloc (Nat.le_refl _) _⟩
theorem rname_9 (w : World) : Calls Tryd.prog 21 #[.int .i8 9] w fun e w' => e = .returned (.string ⟨(namAt 8).toArray⟩) ∧ Below w.heap.size w w' := by
  have hl : letV (-9) = 100 := rfl
  have hcv := conv1 w 100 100 rfl
  go_enter Tryd.func21, Tryd.ntmps21
  go_wp2_with (first | (go_at_call 23; refine (rletter_neg _ _ (by omega) (by omega)).mono ?_; rintro e w' ⟨rfl, rfl⟩))
  go_ret
  exact ⟨rfl, (Below.refl _ _).alloc (Nat.le_refl _) _⟩
theorem rname_10 (w : World) : Calls Tryd.prog 21 #[.int .i8 10] w fun e w' => e = .returned (.string ⟨(namAt 9).toArray⟩) ∧ Below w.heap.size w w' := by
  have hl : letV (-10) = 101 := rfl
  have hcv := conv1 w 101 101 rfl
  go_enter Tryd.func21, Tryd.ntmps21
  go_wp2_with (first | (go_at_call 23; refine (rletter_neg _ _ (by omega) (by omega)).mono ?_; rintro e w' ⟨rfl, rfl⟩))
  go_ret
  exact ⟨rfl, (Below.refl _ _).alloc (Nat.le_refl _) _⟩
theorem rname_11 (w : World) : Calls Tryd.prog 21 #[.int .i8 11] w fun e w' => e = .returned (.string ⟨(namAt 10).toArray⟩) ∧ Below w.heap.size w w' := by
  have hl : letV (-11) = 102 := rfl
  have hcv := conv1 w 102 102 rfl
  go_enter Tryd.func21, Tryd.ntmps21
  go_wp2_with (first | (go_at_call 23; refine (rletter_neg _ _ (by omega) (by omega)).mono ?_; rintro e w' ⟨rfl, rfl⟩))
  go_ret
  exact ⟨rfl, (Below.refl _ _).alloc (Nat.le_refl _) _⟩
theorem rname_12 (w : World) : Calls Tryd.prog 21 #[.int .i8 12] w fun e w' => e = .returned (.string ⟨(namAt 11).toArray⟩) ∧ Below w.heap.size w w' := by
  have hl : letV (-12) = 103 := rfl
  have hcv := conv1 w 103 103 rfl
  go_enter Tryd.func21, Tryd.ntmps21
  go_wp2_with (first | (go_at_call 23; refine (rletter_neg _ _ (by omega) (by omega)).mono ?_; rintro e w' ⟨rfl, rfl⟩))
  go_ret
  exact ⟨rfl, (Below.refl _ _).alloc (Nat.le_refl _) _⟩
theorem rname_13 (w : World) : Calls Tryd.prog 21 #[.int .i8 13] w fun e w' => e = .returned (.string ⟨(namAt 12).toArray⟩) ∧ Below w.heap.size w w' := by
  have hl : letV (-13) = 104 := rfl
  have hcv := conv1 w 104 104 rfl
  go_enter Tryd.func21, Tryd.ntmps21
  go_wp2_with (first | (go_at_call 23; refine (rletter_neg _ _ (by omega) (by omega)).mono ?_; rintro e w' ⟨rfl, rfl⟩))
  go_ret
  exact ⟨rfl, (Below.refl _ _).alloc (Nat.le_refl _) _⟩
theorem rname_14 (w : World) : Calls Tryd.prog 21 #[.int .i8 14] w fun e w' => e = .returned (.string ⟨(namAt 13).toArray⟩) ∧ Below w.heap.size w w' := by
  have hl : letV (-14) = 105 := rfl
  have hcv := conv1 w 105 105 rfl
  go_enter Tryd.func21, Tryd.ntmps21
  go_wp2_with (first | (go_at_call 23; refine (rletter_neg _ _ (by omega) (by omega)).mono ?_; rintro e w' ⟨rfl, rfl⟩))
  go_ret
  exact ⟨rfl, (Below.refl _ _).alloc (Nat.le_refl _) _⟩
theorem rname_15 (w : World) : Calls Tryd.prog 21 #[.int .i8 15] w fun e w' => e = .returned (.string ⟨(namAt 14).toArray⟩) ∧ Below w.heap.size w w' := by
  have hl : letV (-15) = 106 := rfl
  have hcv := conv1 w 106 106 rfl
  go_enter Tryd.func21, Tryd.ntmps21
  go_wp2_with (first | (go_at_call 23; refine (rletter_neg _ _ (by omega) (by omega)).mono ?_; rintro e w' ⟨rfl, rfl⟩))
  go_ret
  exact ⟨rfl, (Below.refl _ _).alloc (Nat.le_refl _) _⟩
theorem rname (p : Int) (w : World) (h1 : 1 ≤ p) (h2 : p ≤ 15) : Calls Tryd.prog 21 #[.int .i8 p] w fun e w' => e = .returned (.string ⟨(namAt (p.toNat - 1)).toArray⟩) ∧ Below w.heap.size w w' := by
  obtain rfl | rfl | rfl | rfl | rfl | rfl | rfl | rfl | rfl | rfl | rfl | rfl | rfl | rfl | rfl : p = 1 ∨ p = 2 ∨ p = 3 ∨ p = 4 ∨ p = 5 ∨ p = 6 ∨ p = 7 ∨ p = 8 ∨ p = 9 ∨ p = 10 ∨ p = 11 ∨ p = 12 ∨ p = 13 ∨ p = 14 ∨ p = 15 := by omega
  · exact rname_1 w
  · exact rname_2 w
  · exact rname_3 w
  · exact rname_4 w
  · exact rname_5 w
  · exact rname_6 w
  · exact rname_7 w
  · exact rname_8 w
  · exact rname_9 w
  · exact rname_10 w
  · exact rname_11 w
  · exact rname_12 w
  · exact rname_13 w
  · exact rname_14 w
  · exact rname_15 w
end Go.Proofs.YtmlbaghbdhogpaaDoor
