/- Layer 35: names of themes. -/
import Derived.Test.YteaclphankckiaaTsh
import Derived.Test.YteaclphankckiaaTi
namespace Go.Proofs.Yteaclphankckiaa
open Go Go.RowKit
set_option linter.unusedSimpArgs false
set_option linter.unusedVariables false

def nmL : List ByteArray := [⟨#[112, 114, 111, 109, 111, 116, 105, 111, 110]⟩, ⟨#[117, 110, 100, 101, 114, 112, 114, 111, 109, 111, 116, 105, 111, 110]⟩, ⟨#[97, 108, 108, 117, 109, 119, 97, 110, 100, 108, 117, 110, 103]⟩, ⟨#[115, 119, 105, 116, 99, 104, 98, 97, 99, 107]⟩, ⟨#[114, 111, 117, 110, 100, 116, 114, 105, 112]⟩, ⟨#[101, 120, 99, 101, 108, 115, 105, 111, 114]⟩]
def nmC : Array Value := #[.string ⟨#[112, 114, 111, 109, 111, 116, 105, 111, 110]⟩, .string ⟨#[117, 110, 100, 101, 114, 112, 114, 111, 109, 111, 116, 105, 111, 110]⟩, .string ⟨#[97, 108, 108, 117, 109, 119, 97, 110, 100, 108, 117, 110, 103]⟩, .string ⟨#[115, 119, 105, 116, 99, 104, 98, 97, 99, 107]⟩, .string ⟨#[114, 111, 117, 110, 100, 116, 114, 105, 112]⟩, .string ⟨#[101, 120, 99, 101, 108, 115, 105, 111, 114]⟩]
def nmAt (k : Nat) : ByteArray := nmL.getD k ByteArray.empty
/-- the place of a name, or -1 -/
def nmI (s : ByteArray) : Int := Lib.idxOfS nmL s
theorem nmI_hit {k : Nat} {s : ByteArray} (hk : k < 6) (h : nmAt k = s) (hne : ∀ j, j < k → nmAt j ≠ s) : nmI s = k := by
  have h2 := Lib.idxOfS_hit nmL 6 k s hk (by decide) h hne
  rwa [show nmL.take 6 = nmL from rfl] at h2
theorem nmI_miss {s : ByteArray} (h : ∀ j, j < 6 → nmAt j ≠ s) : nmI s = -1 := by
  have h2 := Lib.idxOfS_miss nmL 6 s h
  rwa [show nmL.take 6 = nmL from rfl] at h2
theorem nmI_or (s : ByteArray) : (∃ k, k < 6 ∧ nmAt k = s ∧ nmI s = k) ∨ nmI s = -1 := by
  by_cases h : ∃ k, k < 6 ∧ nmAt k = s
  · have hm : ∃ k, (k < 6 ∧ nmAt k = s) ∧ ∀ j, j < k → nmAt j ≠ s := by
      obtain ⟨k, hk⟩ := h
      induction k using Nat.strongRecOn with
      | _ k ih =>
        by_cases h2 : ∃ j, j < k ∧ nmAt j = s
        · obtain ⟨j, hj, e⟩ := h2
          exact ih j hj ⟨by omega, e⟩
        · exact ⟨k, hk, fun j hj e => h2 ⟨j, hj, e⟩⟩
    obtain ⟨k, ⟨h1, h2⟩, h3⟩ := hm
    exact .inl ⟨k, h1, h2, nmI_hit h1 h2 h3⟩
  · exact .inr (nmI_miss fun j hj e => h ⟨j, hj, e⟩)
theorem nmI_at : ∀ k : Nat, k < 6 → nmI (nmAt k) = k := by decide +kernel
/-- the row of names, just made -/
structure NmR (w : World) (B : Nat) : Prop where
  cell : ∀ k, k < 6 → w.cell? ⟨B, k, none⟩ = some (.string (nmAt k))
  lt : B < w.heap.size
theorem NmR.new (w : World) (t : TypeId) : NmR (w.alloc (.cells nmC t)) w.heap.size := by
  have h2 := heap_alloc_new w (.cells nmC t)
  refine ⟨fun k hk => ?_, by simp⟩
  rw [cell_of_row _ _ _ _ _ _ h2]
  have : k = 0 ∨ k = 1 ∨ k = 2 ∨ k = 3 ∨ k = 4 ∨ k = 5 := by omega
  rcases this with rfl | rfl | rfl | rfl | rfl | rfl <;> rfl
theorem NmR.below {w w' : World} {B : Nat} (h : NmR w B) {b0 : Nat} (hB : B < b0) (hb : Below b0 w w') : NmR w' B := ⟨fun k hk => (hb.cell (p := ⟨B, k, none⟩) hB).trans (h.cell k hk), Nat.lt_of_lt_of_le h.lt hb.size⟩
theorem pnames (w : World) : Calls Try.prog 39 #[] w fun e w' => e = .returned (.slice (some ⟨w.heap.size, 0, none⟩) 6 6) ∧ w' = w.alloc (.cells nmC 9) := by
  go_enter Try.func39, Try.ntmps39
  go_wp2
  go_ret
  exact ⟨rfl, rfl⟩
theorem rnames (w : World) : Calls Try.prog 19 #[] w fun e w' => e = .returned (.slice (some ⟨w.heap.size, 0, none⟩) 6 6) ∧ w' = w.alloc (.cells nmC 9) := by
  go_enter Try.func19, Try.ntmps19
  go_wp2
  go_ret
  exact ⟨rfl, rfl⟩
theorem pname_no (th : Int) (w : World) (h : th < 1 ∨ 1 ≤ th ∧ 6 < th) : Calls Try.prog 17 #[.int .i64 th] w fun e w' => e = .returned (.tuple #[.string ⟨#[]⟩, .int .i64 2]) ∧ w = w' := by
  rcases h with h | ⟨h, h2⟩
  · go_enter Try.func17, Try.ntmps17
    go_wp2_with fail
    go_ret2
    exact ⟨rfl, rfl⟩
  · go_enter Try.func17, Try.ntmps17
    go_wp2_with fail
    go_ret2
    exact ⟨rfl, rfl⟩
theorem pname_yes (k : Nat) (w : World) (hk : k < 6) : Calls Try.prog 17 #[.int .i64 ((k : Int) + 1)] w fun e w' => e = .returned (.tuple #[.string (nmAt k), .int .i64 0]) ∧ Below w.heap.size w w' := by
  have hN := Lib.hid (NmR.new w 9)
  have hb : Hid (Below w.heap.size w (w.alloc (.cells nmC 9))) := (Below.refl _ _).alloc (Nat.le_refl _) _
  have hw1 : IntKind.i64.wrap ((k : Int) + 1 - 1) = (k : Int) := by rw [Int.add_sub_cancel]; exact IntWalk.i64_in _ (by omega)
  have hk1 : (k : Int) < 6 := by omega
  have hk2 : (1 : Int) ≤ (k : Int) + 1 := by omega
  have hk3 : (k : Int) + 1 ≤ 6 := by omega
  have hk4 : ((6 : Int) < (k : Int) + 1) = False := by rw [eq_iff_iff, iff_false]; omega
  have hk5 : ((k : Int) + 1 < 1) = False := by rw [eq_iff_iff, iff_false]; omega
  go_enter Try.func17, Try.ntmps17
  go_wp2_with (go_at_call 39; refine (pnames _).mono ?_; rintro e w' ⟨rfl, rfl⟩; have hc := hN.out.cell k hk)
  go_ret2
  exact ⟨rfl, hb.out⟩
theorem pparse_at (s : ByteArray) (w : World) : Calls Try.prog 40 #[.slice (some ⟨w.heap.size, 0, none⟩) 6 6, .string s] (w.alloc (.cells nmC 9)) fun e w' => e = .returned (.int .i64 (nmI s)) ∧ w' = w.alloc (.cells nmC 9) := by
  have hN := NmR.new w 9
  have h := sh_slices_Index_string w.heap.size 0 6 6 nmL s (w.alloc (.cells nmC 9)) (by decide) (by decide) (fun j hj => by
    rw [Nat.zero_add]
    exact hN.cell j hj)
  rwa [show nmL.take 6 = nmL from rfl] at h
theorem pparse_no (s : ByteArray) (w : World) (h : nmI s = -1) : Calls Try.prog 18 #[.string s] w fun e w' => e = .returned (.tuple #[.int .i64 0, .int .i64 6]) ∧ Below w.heap.size w w' := by
  have hb : Hid (Below w.heap.size w (w.alloc (.cells nmC 9))) := (Below.refl _ _).alloc (Nat.le_refl _) _
  have hi := Lib.hid (pparse_at s w)
  go_enter Try.func18, Try.ntmps18
  go_wp2_with (first
    | (go_at_call 39; refine (pnames _).mono ?_; rintro e w' ⟨rfl, rfl⟩)
    | (go_at_call 40; refine hi.out.mono ?_; rw [h]; rintro e w' ⟨rfl, rfl⟩))
  go_ret2
  exact ⟨rfl, hb.out⟩
theorem pparse_yes (s : ByteArray) (k : Nat) (w : World) (hk : k < 6) (h : nmI s = k) : Calls Try.prog 18 #[.string s] w fun e w' => e = .returned (.tuple #[.int .i64 ((k : Int) + 1), .int .i64 0]) ∧ Below w.heap.size w w' := by
  have hb : Hid (Below w.heap.size w (w.alloc (.cells nmC 9))) := (Below.refl _ _).alloc (Nat.le_refl _) _
  have hi := Lib.hid (pparse_at s w)
  have hk0 : (0 : Int) ≤ (k : Int) := Int.natCast_nonneg _
  have hk1 : (k : Int) < 6 := by omega
  have hk2 : (1 : Int) + (k : Int) = (k : Int) + 1 := Int.add_comm _ _
  replace hk2 := Lib.hid hk2
  go_enter Try.func18, Try.ntmps18
  go_wp2_with (first
    | (go_at_call 39; refine (pnames _).mono ?_; rintro e w' ⟨rfl, rfl⟩)
    | (go_at_call 40; refine hi.out.mono ?_; rw [h]; rintro e w' ⟨rfl, rfl⟩))
  go_ret2
  refine ⟨?_, hb.out⟩
  show Ending.returned (.tuple #[.int .i64 ((1 : Int) + (k : Int)), .int .i64 0]) = _
  rw [hk2.out]
set_option maxRecDepth 100000 in
set_option maxHeartbeats 1000000 in
theorem rparseT (s : ByteArray) (w : World) : Calls Try.prog 20 #[.string s] w fun e w' => e = .returned (.int .i64 (nmI s + 1)) ∧ Below w.heap.size w w' := by
  have hN := Lib.hid (NmR.new w 9)
  have hb : Hid (Below w.heap.size w (w.alloc (.cells nmC 9))) := (Below.refl _ _).alloc (Nat.le_refl _) _
  go_enter Try.func20, Try.ntmps20
  go_wp2_with (go_at_call 19; refine (rnames _).mono ?_; rintro e w' ⟨rfl, rfl⟩)
  generalize w.alloc (.cells nmC 9) = w1 at *
  go_loop [4] (fun i => ∃ k : Nat, k ≤ 6 ∧ i = .int .i64 k ∧ Hid (∀ j, j < k → nmAt j ≠ s)) (fun i => 6 - (intOf i).toNat)
  case atStart => exact ⟨0, by omega, rfl, fun j hj => absurd hj (Nat.not_lt_zero j)⟩
  case round =>
    obtain ⟨k, hk, rfl, hne⟩ := hrel
    by_cases hk6 : k < 6
    · have hc := hN.out.cell k hk6
      have hk1 : (k : Int) < 6 := by omega
      have hk0 : (0 : Int) ≤ (k : Int) := Int.natCast_nonneg _
      by_cases he : nmAt k = s
      · have hE : ((nmAt k).toList == s.toList) = true := by rw [he]; exact beq_self_eq_true _
        have hfin := Lib.hid (nmI_hit hk6 he hne.out)
        replace he := Lib.hid he
        go_wp2_with fail
        go_ret
        exact ⟨ri (by rw [hfin.out]), hb.out⟩
      · have hE := list_ne he
        have hn2 : Hid (∀ j, j < k + 1 → nmAt j ≠ s) := fun j hj => by
          by_cases e : j = k
          · rw [e]; exact he
          · exact hne.out j (by omega)
        replace he := Lib.hid he
        go_wp2_with fail
        go_round
        case rel => exact ⟨k + 1, by omega, by go_num, hn2⟩
        case measure => simp [intOf]; omega
    · obtain rfl : k = 6 := by omega
      have hfin := Lib.hid (nmI_miss hne.out)
      go_wp2_with fail
      go_ret
      exact ⟨ri (by rw [hfin.out]; rfl), hb.out⟩
end Go.Proofs.Yteaclphankckiaa
