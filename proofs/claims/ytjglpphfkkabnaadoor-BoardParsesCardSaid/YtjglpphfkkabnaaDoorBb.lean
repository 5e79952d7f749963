/- Layer 3: sets of squares whose piece a function chooses; the squares of a piece, of both sides; the material. -/
import Derived.Test.YtjglpphfkkabnaaDoorBa
import Derived.Deep.Cut
import Derived.Deep.CutRange
import Derived.Deep.QuietTactic
import Derived.BigQuiet
import Derived.Deep.DrawnRows
namespace Go.Proofs.YtjglpphfkkabnaaDoor
open Go.RowKit
set_option linter.unusedSimpArgs false
set_option linter.unusedVariables false

theorem or_shift2 {acc : Nat} {k : Nat} (h : acc < 18446744073709551616) (h1 : k < 64) : bits BinOp.or IntKind.u64 (acc : Int) (IntKind.u64.wrap (2 ^ k)) = ((acc ||| 2 ^ k : Nat) : Int) := by
  have e : 2 ^ k < 2 ^ 64 := Nat.pow_lt_pow_right (by decide) h1
  have e2 : IntKind.u64.wrap (2 ^ k) = ((2 ^ k : Nat) : Int) := by
    rw [IntKind.wrap_u64, Int.emod_eq_of_lt]
    · simp
    · exact Int.le_of_lt (Int.pow_pos (by decide))
    · have : ((2 ^ k : Nat) : Int) < ((2 ^ 64 : Nat) : Int) := by exact_mod_cast e
      simpa using this
  rw [e2]
  exact bits_or_u64_nat acc _ h (by omega)
/-- the set of the squares below k whose piece is chosen -/
def wM (P : Int → Bool) (l : List Int) : Nat → Nat
  | 0 => 0
  | k + 1 => if P (l.getD k 0) then wM P l k ||| 2 ^ k else wM P l k
theorem wM_lt (P : Int → Bool) (l : List Int) : ∀ k, k ≤ 64 → wM P l k < 18446744073709551616 := by
  intro k
  induction k with
  | zero => intro _; simp [wM]
  | succ k ih =>
    intro hk
    unfold wM
    split
    · exact Nat.or_lt_two_pow (n := 64) (ih (by omega)) (Nat.pow_lt_pow_right (by decide) (by omega))
    · exact ih (by omega)
theorem wM_yes {P : Int → Bool} {l : List Int} {k : Nat} {x : Int} (hx : l[k]? = some x) (h : P x = true) : wM P l (k + 1) = wM P l k ||| 2 ^ k := by
  have e : l.getD k 0 = x := by rw [List.getD, hx]; rfl
  show (if P (l.getD k 0) then _ else _) = _
  rw [e, h]; rfl
theorem wM_no {P : Int → Bool} {l : List Int} {k : Nat} {x : Int} (hx : l[k]? = some x) (h : P x = false) : wM P l (k + 1) = wM P l k := by
  have e : l.getD k 0 = x := by rw [List.getD, hx]; rfl
  show (if P (l.getD k 0) then _ else _) = _
  rw [e, h]; rfl
/-- the set of all squares whose piece is chosen -/
def wA (P : Int → Bool) (l : List Int) : Nat := wM P l l.length
theorem cs1 (p : Int) (w : World) : Calls Tryd.prog 41 #[.int .i8 p] w fun e w' => e = .returned (.bool (decide (0 < p))) ∧ w = w' := by
  go_enter Tryd.func41, Tryd.ntmps41
  go_wp2
  go_ret
  exact ⟨rfl, rfl⟩
theorem cs2 (p : Int) (w : World) : Calls Tryd.prog 42 #[.int .i8 p] w fun e w' => e = .returned (.bool (decide (p < 0))) ∧ w = w' := by
  go_enter Tryd.func42, Tryd.ntmps42
  go_wp2
  go_ret
  exact ⟨rfl, rfl⟩
theorem cf1 (p q : Int) (B : Nat) (w : World) (hq : w.cell? ⟨B, 0, none⟩ = some (.int .i8 q)) : Calls Tryd.prog 40 #[.int .i8 p, .pointer (some ⟨B, 0, none⟩)] w fun e w' => e = .returned (.bool (p == q)) ∧ w = w' := by
  go_enter Tryd.func40, Tryd.ntmps40
  go_wp2
  go_ret
  exact ⟨rfl, rfl⟩
set_option maxHeartbeats 1000000 in
theorem wh1 (f r : Int) (A : Option Addr) (c : Nat) (l : List Int) (w : World) (hA : PcsAt w w.heap.size A l) (hl : l.length ≤ 64) :
    Calls Tryd.prog 39 #[bV f r A l.length c, .func (.func 41) #[] #[]] w fun e w' => e = .returned (.int .u64 (wA (fun p : Int => decide (0 < p)) l : Nat)) ∧ Below w.heap.size w w' := by
  have hK := Lib.hid (KB.first f r A l.length c w 26)
  have hAH := Lib.hid (hK.out.pcs hA)
  have c2 := hK.out.c2
  skip
  clear hA
  go_enter Tryd.func39, Tryd.ntmps39
  go_upto_region 1 with fail
  generalize w.alloc (.cells #[.int .i64 f, .int .i64 r, .slice A l.length c] 26) = w1 at *
  go_wp2_with fail
  go_loop [5, 6, 7, 11] (fun s _ _ i => ∃ k : Nat, k ≤ l.length ∧ i = .int .i64 k ∧ s = .int .u64 (wM (fun p : Int => decide (0 < p)) l k : Nat)) (fun _ _ _ i => l.length - (intOf i).toNat)
  case atStart => exact ⟨0, by omega, rfl, rfl⟩
  case round =>
    obtain ⟨k, hk, rfl, rfl⟩ := hrel
    by_cases hkn : k < l.length
    · obtain ⟨b, off, rfl, hb, hc⟩ := hAH.out (by omega)
      obtain ⟨x, hx⟩ : ∃ x, l[k]? = some x := ⟨_, List.getElem?_eq_getElem hkn⟩
      have m0 := pcs1 hc hx
      clear hc
      cases hp : (fun p : Int => decide (0 < p)) x
      · have hsu := Lib.hid (wM_no (P := (fun p : Int => decide (0 < p))) hx hp)
        replace hx := Lib.hid hx
        replace hp := Lib.hid hp
        go_wp2_with (go_at_call 41; refine (cs1 _ _).mono ?_; rintro e w' ⟨rfl, rfl⟩; rw [hp.out])
        go_round
        case rel => exact ⟨k + 1, by omega, by go_num, by rw [hsu.out]⟩
        case measure => simp [intOf]; omega
      · have hsu := Lib.hid (wM_yes (P := (fun p : Int => decide (0 < p))) hx hp)
        have hor := or_shift2 (acc := wM (fun p : Int => decide (0 < p)) l k) (k := k) (wM_lt (fun p : Int => decide (0 < p)) l k (by omega)) (by omega)
        replace hx := Lib.hid hx
        replace hp := Lib.hid hp
        generalize wM (fun p : Int => decide (0 < p)) l k = M at *
        rw [← hsu.out] at hor
        go_wp2_with (go_at_call 41; refine (cs1 _ _).mono ?_; rintro e w' ⟨rfl, rfl⟩; rw [hp.out])
        go_round
        case rel => exact ⟨k + 1, by omega, by go_num, by first | rfl | exact congrArg (Value.int .u64) hor | (rw [← hor]; rfl)⟩
        case measure => simp [intOf]; omega
    · obtain rfl : k = l.length := by omega
      go_wp2_with fail
      go_ret
      exact ⟨rfl, hK.out.below⟩
set_option maxHeartbeats 1000000 in
theorem wh2 (f r : Int) (A : Option Addr) (c : Nat) (l : List Int) (w : World) (hA : PcsAt w w.heap.size A l) (hl : l.length ≤ 64) :
    Calls Tryd.prog 39 #[bV f r A l.length c, .func (.func 42) #[] #[]] w fun e w' => e = .returned (.int .u64 (wA (fun p : Int => decide (p < 0)) l : Nat)) ∧ Below w.heap.size w w' := by
  have hK := Lib.hid (KB.first f r A l.length c w 26)
  have hAH := Lib.hid (hK.out.pcs hA)
  have c2 := hK.out.c2
  skip
  clear hA
  go_enter Tryd.func39, Tryd.ntmps39
  go_upto_region 1 with fail
  generalize w.alloc (.cells #[.int .i64 f, .int .i64 r, .slice A l.length c] 26) = w1 at *
  go_wp2_with fail
  go_loop [5, 6, 7, 11] (fun s _ _ i => ∃ k : Nat, k ≤ l.length ∧ i = .int .i64 k ∧ s = .int .u64 (wM (fun p : Int => decide (p < 0)) l k : Nat)) (fun _ _ _ i => l.length - (intOf i).toNat)
  case atStart => exact ⟨0, by omega, rfl, rfl⟩
  case round =>
    obtain ⟨k, hk, rfl, rfl⟩ := hrel
    by_cases hkn : k < l.length
    · obtain ⟨b, off, rfl, hb, hc⟩ := hAH.out (by omega)
      obtain ⟨x, hx⟩ : ∃ x, l[k]? = some x := ⟨_, List.getElem?_eq_getElem hkn⟩
      have m0 := pcs1 hc hx
      clear hc
      cases hp : (fun p : Int => decide (p < 0)) x
      · have hsu := Lib.hid (wM_no (P := (fun p : Int => decide (p < 0))) hx hp)
        replace hx := Lib.hid hx
        replace hp := Lib.hid hp
        go_wp2_with (go_at_call 42; refine (cs2 _ _).mono ?_; rintro e w' ⟨rfl, rfl⟩; rw [hp.out])
        go_round
        case rel => exact ⟨k + 1, by omega, by go_num, by rw [hsu.out]⟩
        case measure => simp [intOf]; omega
      · have hsu := Lib.hid (wM_yes (P := (fun p : Int => decide (p < 0))) hx hp)
        have hor := or_shift2 (acc := wM (fun p : Int => decide (p < 0)) l k) (k := k) (wM_lt (fun p : Int => decide (p < 0)) l k (by omega)) (by omega)
        replace hx := Lib.hid hx
        replace hp := Lib.hid hp
        generalize wM (fun p : Int => decide (p < 0)) l k = M at *
        rw [← hsu.out] at hor
        go_wp2_with (go_at_call 42; refine (cs2 _ _).mono ?_; rintro e w' ⟨rfl, rfl⟩; rw [hp.out])
        go_round
        case rel => exact ⟨k + 1, by omega, by go_num, by first | rfl | exact congrArg (Value.int .u64) hor | (rw [← hor]; rfl)⟩
        case measure => simp [intOf]; omega
    · obtain rfl : k = l.length := by omega
      go_wp2_with fail
      go_ret
      exact ⟨rfl, hK.out.below⟩
set_option maxHeartbeats 1000000 in
theorem wh3 (f r : Int) (A : Option Addr) (c : Nat) (l : List Int) (q : Int) (B : Nat) (w : World) (hA : PcsAt w w.heap.size A l) (hl : l.length ≤ 64) (hB : B < w.heap.size) (hq : w.cell? ⟨B, 0, none⟩ = some (.int .i8 q)) :
    Calls Tryd.prog 39 #[bV f r A l.length c, .func (.func 40) #[] #[.pointer (some ⟨B, 0, none⟩)]] w fun e w' => e = .returned (.int .u64 (wA (fun p : Int => p == q) l : Nat)) ∧ Below w.heap.size w w' := by
  have hK := Lib.hid (KB.first f r A l.length c w 26)
  have hAH := Lib.hid (hK.out.pcs hA)
  have c2 := hK.out.c2
  have hq1 := Lib.hid ((hK.out.below.cell (p := ⟨B, 0, none⟩) hB).trans hq); clear hq
  clear hA
  go_enter Tryd.func39, Tryd.ntmps39
  go_upto_region 1 with fail
  generalize w.alloc (.cells #[.int .i64 f, .int .i64 r, .slice A l.length c] 26) = w1 at *
  go_wp2_with fail
  go_loop [5, 6, 7, 11] (fun s _ _ i => ∃ k : Nat, k ≤ l.length ∧ i = .int .i64 k ∧ s = .int .u64 (wM (fun p : Int => p == q) l k : Nat)) (fun _ _ _ i => l.length - (intOf i).toNat)
  case atStart => exact ⟨0, by omega, rfl, rfl⟩
  case round =>
    obtain ⟨k, hk, rfl, rfl⟩ := hrel
    by_cases hkn : k < l.length
    · obtain ⟨b, off, rfl, hb, hc⟩ := hAH.out (by omega)
      obtain ⟨x, hx⟩ : ∃ x, l[k]? = some x := ⟨_, List.getElem?_eq_getElem hkn⟩
      have m0 := pcs1 hc hx
      clear hc
      cases hp : (fun p : Int => p == q) x
      · have hsu := Lib.hid (wM_no (P := (fun p : Int => p == q)) hx hp)
        replace hx := Lib.hid hx
        replace hp := Lib.hid hp
        go_wp2_with (go_at_call 40; refine (cf1 _ q B _ hq1.out).mono ?_; rintro e w' ⟨rfl, rfl⟩; rw [hp.out])
        go_round
        case rel => exact ⟨k + 1, by omega, by go_num, by rw [hsu.out]⟩
        case measure => simp [intOf]; omega
      · have hsu := Lib.hid (wM_yes (P := (fun p : Int => p == q)) hx hp)
        have hor := or_shift2 (acc := wM (fun p : Int => p == q) l k) (k := k) (wM_lt (fun p : Int => p == q) l k (by omega)) (by omega)
        replace hx := Lib.hid hx
        replace hp := Lib.hid hp
        generalize wM (fun p : Int => p == q) l k = M at *
        rw [← hsu.out] at hor
        go_wp2_with (go_at_call 40; refine (cf1 _ q B _ hq1.out).mono ?_; rintro e w' ⟨rfl, rfl⟩; rw [hp.out])
        go_round
        case rel => exact ⟨k + 1, by omega, by go_num, by first | rfl | exact congrArg (Value.int .u64) hor | (rw [← hor]; rfl)⟩
        case measure => simp [intOf]; omega
    · obtain rfl : k = l.length := by omega
      go_wp2_with fail
      go_ret
      exact ⟨rfl, hK.out.below⟩
end Go.Proofs.YtjglpphfkkabnaaDoor
