/- Layer 3: the squares of a piece, of both sides; the material: the program's. -/
import Derived.Test.YtjglpphfkkabnaaDoorBb
namespace Go.Proofs.YtjglpphfkkabnaaDoor
open Go.RowKit
set_option linter.unusedSimpArgs false
set_option linter.unusedVariables false

theorem pfind_yes (f r : Int) (A : Option Addr) (c : Nat) (l : List Int) (q : Int) (w : World) (hA : PcsAt w w.heap.size A l) (hl : l.length ≤ 64) (hv : bdB f r l = true) (hq : okP q = true) :
    Calls Tryd.prog 21 #[bV f r A l.length c, .int .i8 q] w fun e w' => e = .returned (.tuple #[.int .u64 (wA (fun p : Int => p == q) l : Nat), .int .i64 0]) ∧ Below w.heap.size w w' := by
  have hK := Lib.hid ((KB.first f r A l.length c w 26).alloc (.cells #[.int .i8 q] 28))
  have hq0 : Hid (((w.alloc (.cells #[.int .i64 f, .int .i64 r, .slice A l.length c] 26)).alloc (.cells #[.int .i8 q] 28)).cell? ⟨w.heap.size + 1, 0, none⟩ = some (.int .i8 q)) := by
    have h := heap_alloc_new (w.alloc (.cells #[.int .i64 f, .int .i64 r, .slice A l.length c] 26)) (.cells #[.int .i8 q] 28)
    rw [World.size_alloc] at h
    show _ = _
    rw [cell_of_row _ _ _ _ _ _ h]; rfl
  have hz0 : Hid (w.heap.size + 1 < ((w.alloc (.cells #[.int .i64 f, .int .i64 r, .slice A l.length c] 26)).alloc (.cells #[.int .i8 q] 28)).heap.size) := by show _ < _; simp
  have hAW : Hid (∀ W, Below w.heap.size w W → PcsAt W W.heap.size A l) := fun W hb => (hA.below (Nat.le_refl _) hb).more hb.size
  have c0 := hK.out.c0
  have c1 := hK.out.c1
  have c2 := hK.out.c2
  have d0 := hq0.out
  clear hA
  go_enter Tryd.func21, Tryd.ntmps21
  go_wp2_with (first
    | (go_at_call 34; refine (pbvalid _ _ _ _ _ _ (hAW.out _ hK.out.below) (by omega)).mono ?_; rintro e w1 ⟨rfl, hbw⟩; rw [hv]; replace hK := Lib.hid (hK.out.next hbw); replace c0 := hK.out.c0; replace c1 := hK.out.c1; replace c2 := hK.out.c2; replace d0 := (hbw.cell (p := ⟨w.heap.size + 1, 0, none⟩) hz0.out).trans d0; have hz1 := Lib.hid (Nat.lt_of_lt_of_le hz0.out hbw.size); clear hbw)
    | (go_at_call 38; refine (pvalidp _ _).mono ?_; rintro e w' ⟨rfl, rfl⟩; rw [hq])
    | (go_at_call 39; refine (wh3 _ _ _ _ _ q (w.heap.size + 1) _ (hAW.out _ hK.out.below) hl hz1.out d0).mono ?_; rintro e w2 ⟨rfl, hbw⟩; replace hK := Lib.hid (hK.out.next hbw); clear hbw))
  go_ret2
  exact ⟨rfl, hK.out.below⟩
theorem pfind_no (f r : Int) (A : Option Addr) (c : Nat) (l : List Int) (q : Int) (w : World) (hA : PcsAt w w.heap.size A l) (hl : l.length ≤ 100000) (hv : bdB f r l = false ∨ (bdB f r l = true ∧ okP q = false)) :
    Calls Tryd.prog 21 #[bV f r A l.length c, .int .i8 q] w fun e w' => e = .returned (.tuple #[.int .u64 0, .int .i64 2]) ∧ Below w.heap.size w w' := by
  have hK := Lib.hid ((KB.first f r A l.length c w 26).alloc (.cells #[.int .i8 q] 28))
  have hq0 : Hid (((w.alloc (.cells #[.int .i64 f, .int .i64 r, .slice A l.length c] 26)).alloc (.cells #[.int .i8 q] 28)).cell? ⟨w.heap.size + 1, 0, none⟩ = some (.int .i8 q)) := by
    have h := heap_alloc_new (w.alloc (.cells #[.int .i64 f, .int .i64 r, .slice A l.length c] 26)) (.cells #[.int .i8 q] 28)
    rw [World.size_alloc] at h
    show _ = _
    rw [cell_of_row _ _ _ _ _ _ h]; rfl
  have hz0 : Hid (w.heap.size + 1 < ((w.alloc (.cells #[.int .i64 f, .int .i64 r, .slice A l.length c] 26)).alloc (.cells #[.int .i8 q] 28)).heap.size) := by show _ < _; simp
  have hAW : Hid (∀ W, Below w.heap.size w W → PcsAt W W.heap.size A l) := fun W hb => (hA.below (Nat.le_refl _) hb).more hb.size
  have c0 := hK.out.c0
  have c1 := hK.out.c1
  have c2 := hK.out.c2
  have d0 := hq0.out
  clear hA
  rcases hv with hv | ⟨hv, hq⟩
  · go_enter Tryd.func21, Tryd.ntmps21
    go_wp2_with (go_at_call 34; refine (pbvalid _ _ _ _ _ _ (hAW.out _ hK.out.below) hl).mono ?_; rintro e w1 ⟨rfl, hbw⟩; rw [hv]; replace hK := Lib.hid (hK.out.next hbw); replace c0 := hK.out.c0; replace c1 := hK.out.c1; replace c2 := hK.out.c2; clear hbw)
    go_ret2
    exact ⟨rfl, hK.out.below⟩
  · go_enter Tryd.func21, Tryd.ntmps21
    go_wp2_with (first
      | (go_at_call 34; refine (pbvalid _ _ _ _ _ _ (hAW.out _ hK.out.below) hl).mono ?_; rintro e w1 ⟨rfl, hbw⟩; rw [hv]; replace hK := Lib.hid (hK.out.next hbw); replace c0 := hK.out.c0; replace c1 := hK.out.c1; replace c2 := hK.out.c2; replace d0 := (hbw.cell (p := ⟨w.heap.size + 1, 0, none⟩) hz0.out).trans d0; clear hbw)
      | (go_at_call 38; refine (pvalidp _ _).mono ?_; rintro e w' ⟨rfl, rfl⟩; rw [hq]))
    go_ret2
    exact ⟨rfl, hK.out.below⟩
set_option maxRecDepth 100000 in
set_option maxHeartbeats 1000000 in
theorem psides_yes (f r : Int) (A : Option Addr) (c : Nat) (l : List Int) (w : World) (hA : PcsAt w w.heap.size A l) (hl : l.length ≤ 64) (hv : bdB f r l = true) :
    Calls Tryd.prog 22 #[bV f r A l.length c] w fun e w' => e = .returned (.tuple #[.int .u64 (wA (fun p : Int => decide (0 < p)) l : Nat), .int .u64 (wA (fun p : Int => decide (p < 0)) l : Nat), .int .i64 0]) ∧ Below w.heap.size w w' := by
  have hK := Lib.hid (KB.first f r A l.length c w 26)
  have hAW : Hid (∀ W, Below w.heap.size w W → PcsAt W W.heap.size A l) := fun W hb => (hA.below (Nat.le_refl _) hb).more hb.size
  have c0 := hK.out.c0
  have c1 := hK.out.c1
  have c2 := hK.out.c2
  clear hA
  have wq1 : ∀ W, Below w.heap.size w W → Calls Tryd.prog 39 #[bV f r A l.length c, .func (.func 41) #[] #[]] W fun e w' => e = .returned (.int .u64 (wA (fun p : Int => decide (0 < p)) l : Nat)) ∧ Below W.heap.size W w' := fun W hb => wh1 f r A c l W (hAW.out W hb) hl
  have wq2 : ∀ W, Below w.heap.size w W → Calls Tryd.prog 39 #[bV f r A l.length c, .func (.func 42) #[] #[]] W fun e w' => e = .returned (.int .u64 (wA (fun p : Int => decide (p < 0)) l : Nat)) ∧ Below W.heap.size W w' := fun W hb => wh2 f r A c l W (hAW.out W hb) hl
  generalize wA (fun p : Int => decide (0 < p)) l = M1 at *
  generalize wA (fun p : Int => decide (p < 0)) l = M2 at *
  replace wq1 := Lib.hid wq1
  replace wq2 := Lib.hid wq2
  go_enter Tryd.func22, Tryd.ntmps22
  go_upto_region 3 with (go_at_call 34; refine (pbvalid _ _ _ _ _ _ (hAW.out _ hK.out.below) (by omega)).mono ?_; rintro e w1 ⟨rfl, hbw⟩; rw [hv]; replace hK := Lib.hid (hK.out.next hbw); replace c0 := hK.out.c0; replace c1 := hK.out.c1; replace c2 := hK.out.c2; clear hbw)
  go_region_held3 (fun w' => w'.cell? ⟨w.heap.size, 0, none⟩ = some (.int .i64 f) ∧ w'.cell? ⟨w.heap.size, 1, none⟩ = some (.int .i64 r) ∧ w'.cell? ⟨w.heap.size, 2, none⟩ = some (.slice A l.length c)) (exact ⟨hK.out.c0, hK.out.c1, hK.out.c2⟩)
    (first
    | (go_at_call 39; (with_reducible refine (wq1.out _ ?_).mono ?_); (first | exact hK.out.below | exact hK.out.drew.below); rintro e w2 ⟨rfl, hb2⟩; replace hK : Hid (KB f r A l.length c w w2) := (by first | exact hK.out.next hb2 | exact hK.out.next (undrew hb2)); clear hb2)
    | (go_at_call 39; (with_reducible refine (wq2.out _ ?_).mono ?_); (first | exact hK.out.below | exact hK.out.drew.below); rintro e w2 ⟨rfl, hb2⟩; replace hK : Hid (KB f r A l.length c w w2) := (by first | exact hK.out.next hb2 | exact hK.out.next (undrew hb2)); clear hb2))
  all_goals
    go_wp2
    go_ret3
    exact ⟨rfl, hK.out.below⟩
theorem psides_no (f r : Int) (A : Option Addr) (c : Nat) (l : List Int) (w : World) (hA : PcsAt w w.heap.size A l) (hl : l.length ≤ 100000) (hv : bdB f r l = false) :
    Calls Tryd.prog 22 #[bV f r A l.length c] w fun e w' => e = .returned (.tuple #[.int .u64 0, .int .u64 0, .int .i64 2]) ∧ Below w.heap.size w w' := by
  have hK := Lib.hid (KB.first f r A l.length c w 26)
  have hAW : Hid (∀ W, Below w.heap.size w W → PcsAt W W.heap.size A l) := fun W hb => (hA.below (Nat.le_refl _) hb).more hb.size
  have c0 := hK.out.c0
  have c1 := hK.out.c1
  have c2 := hK.out.c2
  clear hA
  go_enter Tryd.func22, Tryd.ntmps22
  go_wp2_with (go_at_call 34; refine (pbvalid _ _ _ _ _ _ (hAW.out _ hK.out.below) hl).mono ?_; rintro e w1 ⟨rfl, hbw⟩; rw [hv]; replace hK := Lib.hid (hK.out.next hbw); replace c0 := hK.out.c0; replace c1 := hK.out.c1; replace c2 := hK.out.c2; clear hbw)
  go_ret3
  exact ⟨rfl, hK.out.below⟩
/-- the material of the chosen pieces below k -/
def sM (P : Int → Bool) (l : List Int) : Nat → Int
  | 0 => 0
  | k + 1 => sM P l k + if P (l.getD k 0) then PC.valV (l.getD k 0) else 0
theorem sM_yes {P : Int → Bool} {l : List Int} {k : Nat} {x : Int} (hx : l[k]? = some x) (h : P x = true) : sM P l (k + 1) = sM P l k + PC.valV x := by
  have e : l.getD k 0 = x := by rw [List.getD, hx]; rfl
  show sM P l k + (if P (l.getD k 0) then _ else _) = _
  rw [e, h]; rfl
theorem sM_no {P : Int → Bool} {l : List Int} {k : Nat} {x : Int} (hx : l[k]? = some x) (h : P x = false) : sM P l (k + 1) = sM P l k := by
  have e : l.getD k 0 = x := by rw [List.getD, hx]; rfl
  show sM P l k + (if P (l.getD k 0) then _ else _) = _
  rw [e, h]; simp
theorem val_nat : ∀ n : Nat, n < 31 → 0 ≤ PC.valV ((n : Int) - 15) ∧ PC.valV ((n : Int) - 15) ≤ 9 := by decide +kernel
theorem val_bd {p : Int} (h1 : -15 ≤ p) (h2 : p ≤ 15) : 0 ≤ PC.valV p ∧ PC.valV p ≤ 9 := by
  have h := val_nat (p + 15).toNat (by omega)
  rwa [show (((p + 15).toNat : Nat) : Int) - 15 = p by omega] at h
theorem sM_bd {P : Int → Bool} {l : List Int} (hall : ∀ p, p ∈ l → -15 ≤ p ∧ p ≤ 15) : ∀ k, k ≤ l.length → 0 ≤ sM P l k ∧ sM P l k ≤ 9 * k := by
  intro k
  induction k with
  | zero => intro _; simp [sM]
  | succ k ih =>
    intro hk
    have hx : l[k]? = some l[k] := List.getElem?_eq_getElem (by omega)
    have hv := val_bd (hall l[k] (List.getElem_mem _)).1 (hall l[k] (List.getElem_mem _)).2
    have := ih (by omega)
    cases hp : P l[k]
    · rw [sM_no hx hp]; omega
    · rw [sM_yes hx hp]; omega
def wP (p : Int) : Bool := decide (0 < p)
def nP (p : Int) : Bool := !decide (0 < p)
/-- the pieces' table, the library's own variable -/
structure EnvAt (w : World) : Prop where
  kinds : PC.KindsAt w
  len : ∃ m : Int, w.cell? ⟨1, 0, none⟩ = some (.int .i64 m)
  pos : 1 < w.heap.size
theorem EnvAt.below {w w' : World} (h : EnvAt w) {B : Nat} (hB : 1 < B) (hb : Below B w w') (hs : B ≤ w.heap.size) : EnvAt w' :=
  ⟨h.kinds.below (by omega) hb, by obtain ⟨m, hm⟩ := h.len; exact ⟨m, (hb.cell (p := ⟨1, 0, none⟩) hB).trans hm⟩, by have := hb.size; have := h.pos; omega⟩
theorem EnvAt.next {w w' : World} (h : EnvAt w) (hb : Below w.heap.size w w') : EnvAt w' := h.below h.pos hb (Nat.le_refl _)
set_option maxHeartbeats 1000000 in
theorem pmat_yes (f r : Int) (A : Option Addr) (c : Nat) (l : List Int) (w : World) (hA : PcsAt w w.heap.size A l) (hl : l.length ≤ 64) (hv : bdB f r l = true) (hE : EnvAt w) :
    Calls Tryd.prog 23 #[bV f r A l.length c] w fun e w' => e = .returned (.tuple #[.int .i64 (sM wP l l.length), .int .i64 (sM nP l l.length), .int .i64 0]) ∧ Below w.heap.size w w' := by
  have hK := Lib.hid (KB.first f r A l.length c w 26)
  have hAW : Hid (∀ W, Below w.heap.size w W → PcsAt W w.heap.size A l) := fun W hb => hA.below (Nat.le_refl _) hb
  have hEW : Hid (∀ W, Below w.heap.size w W → PC.KindsAt W) := fun W hb => (hE.next hb).kinds
  have hall := Lib.hid (bdB_out hv).2.2
  have c0 := hK.out.c0
  have c1 := hK.out.c1
  have c2 := hK.out.c2
  clear hA hE
  go_enter Tryd.func23, Tryd.ntmps23
  go_wp2_with (go_at_call 34; refine (pbvalid _ _ _ _ _ _ ((hAW.out _ hK.out.below).more hK.out.below.size) (by omega)).mono ?_; rintro e w1 ⟨rfl, hbw⟩; rw [hv]; replace hK := Lib.hid (hK.out.next hbw); replace c0 := hK.out.c0; replace c1 := hK.out.c1; replace c2 := hK.out.c2; clear hbw)
  go_loop [2, 3, 6, 7, 8, 15] (fun sw sb _ _ _ i => ∃ k : Nat, k ≤ l.length ∧ i = .int .i64 k ∧ sw = .int .i64 (sM wP l k) ∧ sb = .int .i64 (sM nP l k)) (fun _ _ _ _ _ i => l.length - (intOf i).toNat)
  case atStart => exact ⟨0, by omega, rfl, rfl, rfl⟩
  case round =>
    obtain ⟨k, hk, rfl, rfl, rfl⟩ := hrel
    have hkH := hEW.out _ hK.out.below
    by_cases hkn : k < l.length
    · obtain ⟨b, off, rfl, hb, hc⟩ := hAW.out _ hK.out.below (by omega)
      obtain ⟨x, hx⟩ : ∃ x, l[k]? = some x := ⟨_, List.getElem?_eq_getElem hkn⟩
      have m0 := pcs1 hc hx
      clear hc
      obtain ⟨x0, x1⟩ := hall.out x (List.mem_of_getElem? hx)
      obtain ⟨v0, v1⟩ := val_bd x0 x1
      obtain ⟨s0, s1⟩ := sM_bd (P := wP) hall.out k (by omega)
      obtain ⟨t0, t1⟩ := sM_bd (P := nP) hall.out k (by omega)
      by_cases hp : 0 < x
      · have hs1 := Lib.hid (sM_yes (P := wP) hx (decide_eq_true hp))
        have hs2 := Lib.hid (sM_no (P := nP) hx (by unfold nP; rw [decide_eq_true hp]; rfl))
        replace hx := Lib.hid hx
        generalize sM wP l k = S1 at *
        generalize sM nP l k = S2 at *
        go_wp2_with (go_at_call 43; refine (PC.pvalue_yes _ _ hkH x0 x1).mono ?_; rintro e w' ⟨rfl, rfl⟩)
        go_round
        case rel => exact ⟨k + 1, by omega, by go_num, by rw [hs1.out], by rw [hs2.out]⟩
        case measure => simp [intOf]; omega
      · have hs1 := Lib.hid (sM_no (P := wP) hx (decide_eq_false hp))
        have hs2 := Lib.hid (sM_yes (P := nP) hx (by unfold nP; rw [decide_eq_false hp]; rfl))
        replace hx := Lib.hid hx
        generalize sM wP l k = S1 at *
        generalize sM nP l k = S2 at *
        go_wp2_with (go_at_call 43; refine (PC.pvalue_yes _ _ hkH x0 x1).mono ?_; rintro e w' ⟨rfl, rfl⟩)
        go_round
        case rel => exact ⟨k + 1, by omega, by go_num, by rw [hs1.out], by rw [hs2.out]⟩
        case measure => simp [intOf]; omega
    · obtain rfl : k = l.length := by omega
      go_wp2_with fail
      go_ret3
      exact ⟨rfl, hK.out.below⟩
theorem pmat_no (f r : Int) (A : Option Addr) (c : Nat) (l : List Int) (w : World) (hA : PcsAt w w.heap.size A l) (hl : l.length ≤ 100000) (hv : bdB f r l = false) :
    Calls Tryd.prog 23 #[bV f r A l.length c] w fun e w' => e = .returned (.tuple #[.int .i64 0, .int .i64 0, .int .i64 2]) ∧ Below w.heap.size w w' := by
  have hK := Lib.hid (KB.first f r A l.length c w 26)
  have hAW : Hid (∀ W, Below w.heap.size w W → PcsAt W W.heap.size A l) := fun W hb => (hA.below (Nat.le_refl _) hb).more hb.size
  have c0 := hK.out.c0
  have c1 := hK.out.c1
  have c2 := hK.out.c2
  clear hA
  go_enter Tryd.func23, Tryd.ntmps23
  go_wp2_with (go_at_call 34; refine (pbvalid _ _ _ _ _ _ (hAW.out _ hK.out.below) hl).mono ?_; rintro e w1 ⟨rfl, hbw⟩; rw [hv]; replace hK := Lib.hid (hK.out.next hbw); replace c0 := hK.out.c0; replace c1 := hK.out.c1; replace c2 := hK.out.c2; clear hbw)
  go_ret3
  exact ⟨rfl, hK.out.below⟩
end Go.Proofs.YtjglpphfkkabnaaDoor
