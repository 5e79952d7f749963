/- Layer 27: atoms of fairy pieces. -/
import Derived.Test.YtbcdimklblpdnaaDoorProg
import Derived.Test.YtbcdimklblpdnaaDoorO1
import Derived.WalkKit
import Derived.ProofKit
import Derived.OpenShut
import Derived.Below
import Derived.BigQuiet
import Derived.BigRegion
import Derived.Deep.Cut
import Derived.Deep.CutRange
namespace Go.Proofs.YtbcdimklblpdnaaDoor
open Go Go.RowKit
set_option linter.unusedSimpArgs false
set_option linter.unusedVariables false
theorem ri {a b : Int} (h : a = b) : Ending.returned (.int .i64 a) = Ending.returned (.int .i64 b) := by rw [h]
theorem rb {a b : Bool} (h : a = b) : Ending.returned (.bool a) = Ending.returned (.bool b) := by rw [h]
theorem below_drewN {B : Nat} {a w : World} (h : Below B a w) (n : Nat) : Below B a (w.drewN n) := ⟨h.os, h.tape, h.output, h.size, h.block⟩
theorem undrew {B : Nat} {a w : World} (h : Below B a.drew w) : Below B a w := ⟨h.os, h.tape, h.output, h.size, h.block⟩
/-- an atom: its kind, its numbers, its mode and its way -/
structure At where
  kind : Int
  short : Int
  long : Int
  most : Int
  mode : Int
  way : Int
  deriving DecidableEq
instance : Inhabited At := ⟨⟨0, 0, 0, 0, 0, 0⟩⟩
abbrev aV (x : At) : Value := .agg #[.int .i64 x.kind, .int .i64 x.short, .int .i64 x.long, .int .i64 x.most, .int .i64 x.mode, .int .i64 x.way]
def aEnc (x : At) : List Value := [.int .i64 x.kind, .int .i64 x.short, .int .i64 x.long, .int .i64 x.most, .int .i64 x.mode, .int .i64 x.way]
theorem aEnc_len (x : At) : (aEnc x).length = 6 := rfl
theorem aEnc_one (x : At) : ∀ u ∈ aEnc x, u.oneCell' = true := by
  intro u hu
  simp only [aEnc, List.mem_cons, List.not_mem_nil, or_false] at hu
  rcases hu with rfl | rfl | rfl | rfl | rfl | rfl <;> rfl
theorem atomRow : RowOf Tryd.prog 23 40 6 48 :=
  RowOf.mk' (z := .agg #[.int .i64 0, .int .i64 0, .int .i64 0, .int .i64 0, .int .i64 0, .int .i64 0]) Tryd.underlying23 (by kernel_rfl) (by decide) (by decide) rfl
/-- the box of an atom -/
structure KA (w : World) (B : Nat) (x : At) : Prop where
  c0 : w.cell? ⟨B, 0, none⟩ = some (.int .i64 x.kind)
  c1 : w.cell? ⟨B, 1, none⟩ = some (.int .i64 x.short)
  c2 : w.cell? ⟨B, 2, none⟩ = some (.int .i64 x.long)
  c3 : w.cell? ⟨B, 3, none⟩ = some (.int .i64 x.most)
  c4 : w.cell? ⟨B, 4, none⟩ = some (.int .i64 x.mode)
  c5 : w.cell? ⟨B, 5, none⟩ = some (.int .i64 x.way)
  lt : B < w.heap.size
theorem KA.new (w : World) (x : At) : KA (w.alloc (.cells #[.int .i64 x.kind, .int .i64 x.short, .int .i64 x.long, .int .i64 x.most, .int .i64 x.mode, .int .i64 x.way] 40)) w.heap.size x := by
  have h := heap_alloc_new w (.cells #[.int .i64 x.kind, .int .i64 x.short, .int .i64 x.long, .int .i64 x.most, .int .i64 x.mode, .int .i64 x.way] 40)
  exact ⟨by rw [cell_of_row _ _ _ _ _ _ h]; rfl, by rw [cell_of_row _ _ _ _ _ _ h]; rfl, by rw [cell_of_row _ _ _ _ _ _ h]; rfl, by rw [cell_of_row _ _ _ _ _ _ h]; rfl, by rw [cell_of_row _ _ _ _ _ _ h]; rfl, by rw [cell_of_row _ _ _ _ _ _ h]; rfl, by simp⟩
theorem KA.next {w w' : World} {B : Nat} {x : At} (h : KA w B x) (hb : Below w.heap.size w w') : KA w' B x :=
  ⟨(hb.cell (p := ⟨B, _, none⟩) h.lt).trans h.c0, (hb.cell (p := ⟨B, _, none⟩) h.lt).trans h.c1, (hb.cell (p := ⟨B, _, none⟩) h.lt).trans h.c2, (hb.cell (p := ⟨B, _, none⟩) h.lt).trans h.c3, (hb.cell (p := ⟨B, _, none⟩) h.lt).trans h.c4, (hb.cell (p := ⟨B, _, none⟩) h.lt).trans h.c5, Nat.lt_of_lt_of_le h.lt hb.size⟩
def inB (n a b : Int) : Bool := decide (a ≤ n) && decide (n ≤ b)
theorem inB_yes {n a b : Int} (h1 : a ≤ n) (h2 : n ≤ b) : inB n a b = true := by unfold inB; rw [decide_eq_true h1, decide_eq_true h2]; rfl
theorem inB_no {n a b : Int} (h : ¬ (a ≤ n ∧ n ≤ b)) : inB n a b = false := by
  unfold inB
  by_cases h1 : a ≤ n
  · rw [decide_eq_true h1, decide_eq_false (fun h2 => h ⟨h1, h2⟩)]; rfl
  · rw [decide_eq_false h1]; rfl
theorem pwithin (n a b : Int) (w : World) : Calls Tryd.prog 43 #[.int .i64 n, .int .i64 a, .int .i64 b] w fun e w' => e = .returned (.bool (inB n a b)) ∧ w = w' := by
  by_cases h1 : a ≤ n
  · by_cases h2 : n ≤ b
    · have hV : Hid (inB n a b = true) := inB_yes h1 h2
      go_enter Tryd.func43, Tryd.ntmps43
      go_wp2_with fail
      go_ret
      exact ⟨rb hV.out.symm, rfl⟩
    · have hV : Hid (inB n a b = false) := inB_no (fun h => h2 h.2)
      have h3 : (n ≤ b) = False := eq_false h2
      go_enter Tryd.func43, Tryd.ntmps43
      go_wp2_with fail
      go_ret
      exact ⟨rb hV.out.symm, rfl⟩
  · have hV : Hid (inB n a b = false) := inB_no (fun h => h1 h.1)
    have h3 : (a ≤ n) = False := eq_false h1
    go_enter Tryd.func43, Tryd.ntmps43
    go_wp2_with fail
    go_ret
    exact ⟨rb hV.out.symm, rfl⟩
theorem rto (n a b : Int) (w : World) : Calls Tryd.prog 42 #[.int .i64 n, .int .i64 a, .int .i64 b] w fun e w' => e = .returned (.bool (inB n a b)) ∧ w = w' := by
  by_cases h1 : a ≤ n
  · by_cases h2 : n ≤ b
    · have hV : Hid (inB n a b = true) := inB_yes h1 h2
      go_enter Tryd.func42, Tryd.ntmps42
      go_wp2_with fail
      go_ret
      exact ⟨rb hV.out.symm, rfl⟩
    · have hV : Hid (inB n a b = false) := inB_no (fun h => h2 h.2)
      have h3 : (n ≤ b) = False := eq_false h2
      go_enter Tryd.func42, Tryd.ntmps42
      go_wp2_with fail
      go_ret
      exact ⟨rb hV.out.symm, rfl⟩
  · have hV : Hid (inB n a b = false) := inB_no (fun h => h1 h.1)
    have h3 : (a ≤ n) = False := eq_false h1
    go_enter Tryd.func42, Tryd.ntmps42
    go_wp2_with fail
    go_ret
    exact ⟨rb hV.out.symm, rfl⟩
def leastA (x : At) : Int := if x.kind = 5 then 2 else 1
def mostA (x : At) : Int := if x.kind = 2 then 7 else 0
/-- the valid atoms -/
def okA (x : At) : Prop := (1 ≤ x.kind ∧ x.kind ≤ 5) ∧ (0 ≤ x.mode ∧ x.mode ≤ 2) ∧ (0 ≤ x.way ∧ x.way ≤ 2) ∧ (0 ≤ x.short ∧ x.short ≤ x.long) ∧ (leastA x ≤ x.long ∧ x.long ≤ 7) ∧ (0 ≤ x.most ∧ x.most ≤ mostA x)
instance (x : At) : Decidable (okA x) := by unfold okA; infer_instance
def aB (x : At) : Bool := decide (okA x)
theorem aB_yes {x : At} (h : okA x) : aB x = true := decide_eq_true h
theorem aB_no {x : At} (h : ¬ okA x) : aB x = false := decide_eq_false h
set_option maxRecDepth 100000 in
set_option maxHeartbeats 4000000 in
theorem pfine (x : At) (w : World) : Calls Tryd.prog 25 #[aV x] w fun e w' => e = .returned (.bool (aB x)) ∧ Below w.heap.size w w' := by
  have hX := Lib.hid (KA.new w x)
  have hb : Hid (Below w.heap.size w (w.alloc (.cells #[.int .i64 x.kind, .int .i64 x.short, .int .i64 x.long, .int .i64 x.most, .int .i64 x.mode, .int .i64 x.way] 40))) := (Below.refl _ _).alloc (Nat.le_refl _) _
  obtain ⟨L, hL⟩ : ∃ L, leastA x = L := ⟨_, rfl⟩
  obtain ⟨M, hM⟩ : ∃ M, mostA x = M := ⟨_, rfl⟩
  have hOk : Hid (okA x ↔ (1 ≤ x.kind ∧ x.kind ≤ 5) ∧ (0 ≤ x.mode ∧ x.mode ≤ 2) ∧ (0 ≤ x.way ∧ x.way ≤ 2) ∧ (0 ≤ x.short ∧ x.short ≤ x.long) ∧ (L ≤ x.long ∧ x.long ≤ 7) ∧ (0 ≤ x.most ∧ x.most ≤ M)) := by
    show _ ↔ _
    rw [← hL, ← hM]; exact Iff.rfl
  have hLH := Lib.hid hL
  have hMH := Lib.hid hM
  clear hL hM
  go_enter Tryd.func25, Tryd.ntmps25
  go_upto_region 1 with fail
  generalize w.heap.size = B0 at hX ⊢
  generalize w.alloc (.cells #[.int .i64 x.kind, .int .i64 x.short, .int .i64 x.long, .int .i64 x.most, .int .i64 x.mode, .int .i64 x.way] 40) = u at *
  obtain ⟨x0, x1, x2, x3, x4, x5, _⟩ := hX.out
  clear hX
  by_cases k1 : x.kind = 2
  · have q1 : (x.kind == 2) = true := by rw [beq_iff_eq]; exact k1
    have hm : M = 7 := by rw [← hMH.out]; exact if_pos k1
    have hl : L = 1 := by rw [← hLH.out]; exact if_neg (by omega)
    subst hm hl
    clear k1 hLH hMH
    by_cases h0 : 1 ≤ x.kind ∧ x.kind ≤ 5
    rotate_left
    · have hV : Hid (aB x = false) := aB_no fun hh => h0 (by have h := hOk.out.1 hh; exact h.1)
      have i0 : inB x.kind 1 5 = false := inB_no h0
      clear h0 hOk
      go_wp2_with (go_at_call 43; refine (pwithin _ _ _ _).mono ?_; rintro e w' ⟨rfl, rfl⟩)
      go_ret
      exact ⟨rb hV.out.symm, hb.out⟩
    have i0 : inB x.kind 1 5 = true := inB_yes h0.1 h0.2
    by_cases h1 : 0 ≤ x.mode ∧ x.mode ≤ 2
    rotate_left
    · have hV : Hid (aB x = false) := aB_no fun hh => h1 (by have h := hOk.out.1 hh; exact h.2.1)
      have i1 : inB x.mode 0 2 = false := inB_no h1
      clear h1 hOk h0
      go_wp2_with (go_at_call 43; refine (pwithin _ _ _ _).mono ?_; rintro e w' ⟨rfl, rfl⟩)
      go_ret
      exact ⟨rb hV.out.symm, hb.out⟩
    have i1 : inB x.mode 0 2 = true := inB_yes h1.1 h1.2
    by_cases h2 : 0 ≤ x.way ∧ x.way ≤ 2
    rotate_left
    · have hV : Hid (aB x = false) := aB_no fun hh => h2 (by have h := hOk.out.1 hh; exact h.2.2.1)
      have i2 : inB x.way 0 2 = false := inB_no h2
      clear h2 hOk h0 h1
      go_wp2_with (go_at_call 43; refine (pwithin _ _ _ _).mono ?_; rintro e w' ⟨rfl, rfl⟩)
      go_ret
      exact ⟨rb hV.out.symm, hb.out⟩
    have i2 : inB x.way 0 2 = true := inB_yes h2.1 h2.2
    by_cases h3 : 0 ≤ x.short ∧ x.short ≤ x.long
    rotate_left
    · have hV : Hid (aB x = false) := aB_no fun hh => h3 (by have h := hOk.out.1 hh; exact h.2.2.2.1)
      have i3 : inB x.short 0 x.long = false := inB_no h3
      clear h3 hOk h0 h1 h2
      go_wp2_with (go_at_call 43; refine (pwithin _ _ _ _).mono ?_; rintro e w' ⟨rfl, rfl⟩)
      go_ret
      exact ⟨rb hV.out.symm, hb.out⟩
    have i3 : inB x.short 0 x.long = true := inB_yes h3.1 h3.2
    by_cases h4 : 1 ≤ x.long ∧ x.long ≤ 7
    rotate_left
    · have hV : Hid (aB x = false) := aB_no fun hh => h4 (by have h := hOk.out.1 hh; exact h.2.2.2.2.1)
      have i4 : inB x.long 1 7 = false := inB_no h4
      clear h4 hOk h0 h1 h2 h3
      go_wp2_with (go_at_call 43; refine (pwithin _ _ _ _).mono ?_; rintro e w' ⟨rfl, rfl⟩)
      go_ret
      exact ⟨rb hV.out.symm, hb.out⟩
    have i4 : inB x.long 1 7 = true := inB_yes h4.1 h4.2
    by_cases h5 : 0 ≤ x.most ∧ x.most ≤ 7
    rotate_left
    · have hV : Hid (aB x = false) := aB_no fun hh => h5 (by have h := hOk.out.1 hh; exact h.2.2.2.2.2)
      have i5 : inB x.most 0 7 = false := inB_no h5
      clear h5 hOk h0 h1 h2 h3 h4
      go_wp2_with (go_at_call 43; refine (pwithin _ _ _ _).mono ?_; rintro e w' ⟨rfl, rfl⟩)
      go_ret
      exact ⟨rb hV.out.symm, hb.out⟩
    have i5 : inB x.most 0 7 = true := inB_yes h5.1 h5.2
    have hV : Hid (aB x = true) := aB_yes (hOk.out.2 ⟨h0, h1, h2, h3, h4, h5⟩)
    clear hOk h0 h1 h2 h3 h4 h5
    go_wp2_with (go_at_call 43; refine (pwithin _ _ _ _).mono ?_; rintro e w' ⟨rfl, rfl⟩)
    go_ret
    exact ⟨rb hV.out.symm, hb.out⟩
  have q1 : (x.kind == 2) = false := by rw [beq_eq_false_iff_ne]; exact k1
  have hm : M = 0 := by rw [← hMH.out]; exact if_neg k1
  subst hm
  by_cases k2 : x.kind = 5
  · have q2 : (x.kind == 5) = true := by rw [beq_iff_eq]; exact k2
    have hl : L = 2 := by rw [← hLH.out]; exact if_pos k2
    subst hl
    clear k1 k2 hLH hMH
    by_cases h0 : 1 ≤ x.kind ∧ x.kind ≤ 5
    rotate_left
    · have hV : Hid (aB x = false) := aB_no fun hh => h0 (by have h := hOk.out.1 hh; exact h.1)
      have i0 : inB x.kind 1 5 = false := inB_no h0
      clear h0 hOk
      go_wp2_with (go_at_call 43; refine (pwithin _ _ _ _).mono ?_; rintro e w' ⟨rfl, rfl⟩)
      go_ret
      exact ⟨rb hV.out.symm, hb.out⟩
    have i0 : inB x.kind 1 5 = true := inB_yes h0.1 h0.2
    by_cases h1 : 0 ≤ x.mode ∧ x.mode ≤ 2
    rotate_left
    · have hV : Hid (aB x = false) := aB_no fun hh => h1 (by have h := hOk.out.1 hh; exact h.2.1)
      have i1 : inB x.mode 0 2 = false := inB_no h1
      clear h1 hOk h0
      go_wp2_with (go_at_call 43; refine (pwithin _ _ _ _).mono ?_; rintro e w' ⟨rfl, rfl⟩)
      go_ret
      exact ⟨rb hV.out.symm, hb.out⟩
    have i1 : inB x.mode 0 2 = true := inB_yes h1.1 h1.2
    by_cases h2 : 0 ≤ x.way ∧ x.way ≤ 2
    rotate_left
    · have hV : Hid (aB x = false) := aB_no fun hh => h2 (by have h := hOk.out.1 hh; exact h.2.2.1)
      have i2 : inB x.way 0 2 = false := inB_no h2
      clear h2 hOk h0 h1
      go_wp2_with (go_at_call 43; refine (pwithin _ _ _ _).mono ?_; rintro e w' ⟨rfl, rfl⟩)
      go_ret
      exact ⟨rb hV.out.symm, hb.out⟩
    have i2 : inB x.way 0 2 = true := inB_yes h2.1 h2.2
    by_cases h3 : 0 ≤ x.short ∧ x.short ≤ x.long
    rotate_left
    · have hV : Hid (aB x = false) := aB_no fun hh => h3 (by have h := hOk.out.1 hh; exact h.2.2.2.1)
      have i3 : inB x.short 0 x.long = false := inB_no h3
      clear h3 hOk h0 h1 h2
      go_wp2_with (go_at_call 43; refine (pwithin _ _ _ _).mono ?_; rintro e w' ⟨rfl, rfl⟩)
      go_ret
      exact ⟨rb hV.out.symm, hb.out⟩
    have i3 : inB x.short 0 x.long = true := inB_yes h3.1 h3.2
    by_cases h4 : 2 ≤ x.long ∧ x.long ≤ 7
    rotate_left
    · have hV : Hid (aB x = false) := aB_no fun hh => h4 (by have h := hOk.out.1 hh; exact h.2.2.2.2.1)
      have i4 : inB x.long 2 7 = false := inB_no h4
      clear h4 hOk h0 h1 h2 h3
      go_wp2_with (go_at_call 43; refine (pwithin _ _ _ _).mono ?_; rintro e w' ⟨rfl, rfl⟩)
      go_ret
      exact ⟨rb hV.out.symm, hb.out⟩
    have i4 : inB x.long 2 7 = true := inB_yes h4.1 h4.2
    by_cases h5 : 0 ≤ x.most ∧ x.most ≤ 0
    rotate_left
    · have hV : Hid (aB x = false) := aB_no fun hh => h5 (by have h := hOk.out.1 hh; exact h.2.2.2.2.2)
      have i5 : inB x.most 0 0 = false := inB_no h5
      clear h5 hOk h0 h1 h2 h3 h4
      go_wp2_with (go_at_call 43; refine (pwithin _ _ _ _).mono ?_; rintro e w' ⟨rfl, rfl⟩)
      go_ret
      exact ⟨rb hV.out.symm, hb.out⟩
    have i5 : inB x.most 0 0 = true := inB_yes h5.1 h5.2
    have hV : Hid (aB x = true) := aB_yes (hOk.out.2 ⟨h0, h1, h2, h3, h4, h5⟩)
    clear hOk h0 h1 h2 h3 h4 h5
    go_wp2_with (go_at_call 43; refine (pwithin _ _ _ _).mono ?_; rintro e w' ⟨rfl, rfl⟩)
    go_ret
    exact ⟨rb hV.out.symm, hb.out⟩
  · have q2 : (x.kind == 5) = false := by rw [beq_eq_false_iff_ne]; exact k2
    have hl : L = 1 := by rw [← hLH.out]; exact if_neg k2
    subst hl
    clear k1 k2 hLH hMH
    by_cases h0 : 1 ≤ x.kind ∧ x.kind ≤ 5
    rotate_left
    · have hV : Hid (aB x = false) := aB_no fun hh => h0 (by have h := hOk.out.1 hh; exact h.1)
      have i0 : inB x.kind 1 5 = false := inB_no h0
      clear h0 hOk
      go_wp2_with (go_at_call 43; refine (pwithin _ _ _ _).mono ?_; rintro e w' ⟨rfl, rfl⟩)
      go_ret
      exact ⟨rb hV.out.symm, hb.out⟩
    have i0 : inB x.kind 1 5 = true := inB_yes h0.1 h0.2
    by_cases h1 : 0 ≤ x.mode ∧ x.mode ≤ 2
    rotate_left
    · have hV : Hid (aB x = false) := aB_no fun hh => h1 (by have h := hOk.out.1 hh; exact h.2.1)
      have i1 : inB x.mode 0 2 = false := inB_no h1
      clear h1 hOk h0
      go_wp2_with (go_at_call 43; refine (pwithin _ _ _ _).mono ?_; rintro e w' ⟨rfl, rfl⟩)
      go_ret
      exact ⟨rb hV.out.symm, hb.out⟩
    have i1 : inB x.mode 0 2 = true := inB_yes h1.1 h1.2
    by_cases h2 : 0 ≤ x.way ∧ x.way ≤ 2
    rotate_left
    · have hV : Hid (aB x = false) := aB_no fun hh => h2 (by have h := hOk.out.1 hh; exact h.2.2.1)
      have i2 : inB x.way 0 2 = false := inB_no h2
      clear h2 hOk h0 h1
      go_wp2_with (go_at_call 43; refine (pwithin _ _ _ _).mono ?_; rintro e w' ⟨rfl, rfl⟩)
      go_ret
      exact ⟨rb hV.out.symm, hb.out⟩
    have i2 : inB x.way 0 2 = true := inB_yes h2.1 h2.2
    by_cases h3 : 0 ≤ x.short ∧ x.short ≤ x.long
    rotate_left
    · have hV : Hid (aB x = false) := aB_no fun hh => h3 (by have h := hOk.out.1 hh; exact h.2.2.2.1)
      have i3 : inB x.short 0 x.long = false := inB_no h3
      clear h3 hOk h0 h1 h2
      go_wp2_with (go_at_call 43; refine (pwithin _ _ _ _).mono ?_; rintro e w' ⟨rfl, rfl⟩)
      go_ret
      exact ⟨rb hV.out.symm, hb.out⟩
    have i3 : inB x.short 0 x.long = true := inB_yes h3.1 h3.2
    by_cases h4 : 1 ≤ x.long ∧ x.long ≤ 7
    rotate_left
    · have hV : Hid (aB x = false) := aB_no fun hh => h4 (by have h := hOk.out.1 hh; exact h.2.2.2.2.1)
      have i4 : inB x.long 1 7 = false := inB_no h4
      clear h4 hOk h0 h1 h2 h3
      go_wp2_with (go_at_call 43; refine (pwithin _ _ _ _).mono ?_; rintro e w' ⟨rfl, rfl⟩)
      go_ret
      exact ⟨rb hV.out.symm, hb.out⟩
    have i4 : inB x.long 1 7 = true := inB_yes h4.1 h4.2
    by_cases h5 : 0 ≤ x.most ∧ x.most ≤ 0
    rotate_left
    · have hV : Hid (aB x = false) := aB_no fun hh => h5 (by have h := hOk.out.1 hh; exact h.2.2.2.2.2)
      have i5 : inB x.most 0 0 = false := inB_no h5
      clear h5 hOk h0 h1 h2 h3 h4
      go_wp2_with (go_at_call 43; refine (pwithin _ _ _ _).mono ?_; rintro e w' ⟨rfl, rfl⟩)
      go_ret
      exact ⟨rb hV.out.symm, hb.out⟩
    have i5 : inB x.most 0 0 = true := inB_yes h5.1 h5.2
    have hV : Hid (aB x = true) := aB_yes (hOk.out.2 ⟨h0, h1, h2, h3, h4, h5⟩)
    clear hOk h0 h1 h2 h3 h4 h5
    go_wp2_with (go_at_call 43; refine (pwithin _ _ _ _).mono ?_; rintro e w' ⟨rfl, rfl⟩)
    go_ret
    exact ⟨rb hV.out.symm, hb.out⟩
set_option maxRecDepth 100000 in
set_option maxHeartbeats 4000000 in
theorem rAtom (x : At) (w : World) : Calls Tryd.prog 40 #[aV x] w fun e w' => e = .returned (.bool (aB x)) ∧ Below w.heap.size w w' := by
  have hX := Lib.hid (KA.new w x)
  have hb : Hid (Below w.heap.size w (w.alloc (.cells #[.int .i64 x.kind, .int .i64 x.short, .int .i64 x.long, .int .i64 x.most, .int .i64 x.mode, .int .i64 x.way] 40))) := (Below.refl _ _).alloc (Nat.le_refl _) _
  go_enter Tryd.func40, Tryd.ntmps40
  go_upto_region 1 with fail
  generalize w.heap.size = B0 at hX ⊢
  generalize w.alloc (.cells #[.int .i64 x.kind, .int .i64 x.short, .int .i64 x.long, .int .i64 x.most, .int .i64 x.mode, .int .i64 x.way] 40) = u at *
  obtain ⟨x0, x1, x2, x3, x4, x5, _⟩ := hX.out
  clear hX
  by_cases h0 : 1 ≤ x.kind ∧ x.kind ≤ 5
  rotate_left
  · have hV : Hid (aB x = false) := aB_no fun hh => h0 (hh.1)
    have i0 : inB x.kind 1 5 = false := inB_no h0
    clear h0
    go_wp2_with (go_at_call 42; refine (rto _ _ _ _).mono ?_; rintro e w' ⟨rfl, rfl⟩)
    go_ret
    exact ⟨rb hV.out.symm, hb.out⟩
  have i0 : inB x.kind 1 5 = true := inB_yes h0.1 h0.2
  by_cases h1 : 0 ≤ x.mode ∧ x.mode ≤ 2
  rotate_left
  · have hV : Hid (aB x = false) := aB_no fun hh => h1 (hh.2.1)
    have i1 : inB x.mode 0 2 = false := inB_no h1
    clear h1 h0
    go_wp2_with (go_at_call 42; refine (rto _ _ _ _).mono ?_; rintro e w' ⟨rfl, rfl⟩)
    go_ret
    exact ⟨rb hV.out.symm, hb.out⟩
  have i1 : inB x.mode 0 2 = true := inB_yes h1.1 h1.2
  by_cases h2 : 0 ≤ x.way ∧ x.way ≤ 2
  rotate_left
  · have hV : Hid (aB x = false) := aB_no fun hh => h2 (hh.2.2.1)
    have i2 : inB x.way 0 2 = false := inB_no h2
    clear h2 h0 h1
    go_wp2_with (go_at_call 42; refine (rto _ _ _ _).mono ?_; rintro e w' ⟨rfl, rfl⟩)
    go_ret
    exact ⟨rb hV.out.symm, hb.out⟩
  have i2 : inB x.way 0 2 = true := inB_yes h2.1 h2.2
  by_cases h3 : 0 ≤ x.short
  rotate_left
  · have hV : Hid (aB x = false) := aB_no fun hh => h3 (hh.2.2.2.1.1)
    have jh3 : (x.short < 0) = True := eq_true (by omega)
    clear h3 h0 h1 h2
    go_wp2_with (go_at_call 42; refine (rto _ _ _ _).mono ?_; rintro e w' ⟨rfl, rfl⟩)
    go_ret
    exact ⟨rb hV.out.symm, hb.out⟩
  have jh3 : (x.short < 0) = False := eq_false (by omega)
  by_cases h4 : x.short ≤ x.long
  rotate_left
  · have hV : Hid (aB x = false) := aB_no fun hh => h4 (hh.2.2.2.1.2)
    have jh4 : (x.long < x.short) = True := eq_true (by omega)
    clear h4 h0 h1 h2 h3
    go_wp2_with (go_at_call 42; refine (rto _ _ _ _).mono ?_; rintro e w' ⟨rfl, rfl⟩)
    go_ret
    exact ⟨rb hV.out.symm, hb.out⟩
  have jh4 : (x.long < x.short) = False := eq_false (by omega)
  by_cases h5 : 1 ≤ x.long ∧ x.long ≤ 7
  rotate_left
  · have hV : Hid (aB x = false) := aB_no fun hh => h5 (⟨by have := hh.2.2.2.2.1.1; unfold leastA at this; split at this <;> omega, hh.2.2.2.2.1.2⟩)
    have i5 : inB x.long 1 7 = false := inB_no h5
    clear h5 h0 h1 h2 h3 h4
    go_wp2_with (go_at_call 42; refine (rto _ _ _ _).mono ?_; rintro e w' ⟨rfl, rfl⟩)
    go_ret
    exact ⟨rb hV.out.symm, hb.out⟩
  have i5 : inB x.long 1 7 = true := inB_yes h5.1 h5.2
  by_cases k5 : x.kind = 5
  · have q5 : (x.kind == 5) = true := by rw [beq_iff_eq]; exact k5
    have q2 : (x.kind == 2) = false := by rw [beq_eq_false_iff_ne]; omega
    have hl : leastA x = 2 := if_pos k5
    have hm : mostA x = 0 := if_neg (by omega)
    by_cases k6 : x.long < 2
    · have j6 : (x.long < 2) = True := eq_true k6
      have hV : Hid (aB x = false) := aB_no fun hh => by have := hh.2.2.2.2.1.1; omega
      clear h0 h1 h2 h3 h4 h5 k5 k6 hl hm
      go_wp2_with (go_at_call 42; refine (rto _ _ _ _).mono ?_; rintro e w' ⟨rfl, rfl⟩)
      go_ret
      exact ⟨rb hV.out.symm, hb.out⟩
    have j6 : (x.long < 2) = False := eq_false k6
    by_cases k7 : x.most = 0
    · have q7 : (x.most == 0) = true := by rw [beq_iff_eq]; exact k7
      have hV : Hid (aB x = true) := aB_yes ⟨h0, h1, h2, ⟨h3, h4⟩, ⟨by omega, h5.2⟩, by omega, by omega⟩
      clear h0 h1 h2 h3 h4 h5 k5 k6 k7 hl hm
      go_wp2_with (go_at_call 42; refine (rto _ _ _ _).mono ?_; rintro e w' ⟨rfl, rfl⟩)
      go_ret
      exact ⟨rb hV.out.symm, hb.out⟩
    have q7 : (x.most == 0) = false := by rw [beq_eq_false_iff_ne]; exact k7
    have hV : Hid (aB x = false) := aB_no fun hh => by have := hh.2.2.2.2.2; omega
    clear h0 h1 h2 h3 h4 h5 k5 k6 k7 hl hm
    go_wp2_with (go_at_call 42; refine (rto _ _ _ _).mono ?_; rintro e w' ⟨rfl, rfl⟩)
    go_ret
    exact ⟨rb hV.out.symm, hb.out⟩
  have q5 : (x.kind == 5) = false := by rw [beq_eq_false_iff_ne]; exact k5
  have hl : leastA x = 1 := if_neg k5
  by_cases k7 : x.most = 0
  · have q7 : (x.most == 0) = true := by rw [beq_iff_eq]; exact k7
    have hV : Hid (aB x = true) := aB_yes ⟨h0, h1, h2, ⟨h3, h4⟩, ⟨by omega, h5.2⟩, by omega, by rw [k7]; unfold mostA; split <;> omega⟩
    clear h0 h1 h2 h3 h4 h5 k5 k7 hl
    go_wp2_with (go_at_call 42; refine (rto _ _ _ _).mono ?_; rintro e w' ⟨rfl, rfl⟩)
    go_ret
    exact ⟨rb hV.out.symm, hb.out⟩
  have q7 : (x.most == 0) = false := by rw [beq_eq_false_iff_ne]; exact k7
  by_cases k2 : x.kind = 2
  rotate_left
  · have q2 : (x.kind == 2) = false := by rw [beq_eq_false_iff_ne]; exact k2
    have hm : mostA x = 0 := if_neg k2
    have hV : Hid (aB x = false) := aB_no fun hh => by have := hh.2.2.2.2.2; omega
    clear h0 h1 h2 h3 h4 h5 k5 k7 hl k2 hm
    go_wp2_with (go_at_call 42; refine (rto _ _ _ _).mono ?_; rintro e w' ⟨rfl, rfl⟩)
    go_ret
    exact ⟨rb hV.out.symm, hb.out⟩
  have q2 : (x.kind == 2) = true := by rw [beq_iff_eq]; exact k2
  have hm : mostA x = 7 := if_pos k2
  by_cases k8 : 1 ≤ x.most ∧ x.most ≤ 7
  · have i8 : inB x.most 1 7 = true := inB_yes k8.1 k8.2
    have hV : Hid (aB x = true) := aB_yes ⟨h0, h1, h2, ⟨h3, h4⟩, ⟨by omega, h5.2⟩, by omega, by omega⟩
    clear h0 h1 h2 h3 h4 h5 k5 k7 hl k2 hm k8
    go_wp2_with (go_at_call 42; refine (rto _ _ _ _).mono ?_; rintro e w' ⟨rfl, rfl⟩)
    go_ret
    exact ⟨rb hV.out.symm, hb.out⟩
  · have i8 : inB x.most 1 7 = false := inB_no k8
    have hV : Hid (aB x = false) := aB_no fun hh => by have := hh.2.2.2.2.2; omega
    clear h0 h1 h2 h3 h4 h5 k5 k7 hl k2 hm k8
    go_wp2_with (go_at_call 42; refine (rto _ _ _ _).mono ?_; rintro e w' ⟨rfl, rfl⟩)
    go_ret
    exact ⟨rb hV.out.symm, hb.out⟩
end Go.Proofs.YtbcdimklblpdnaaDoor
