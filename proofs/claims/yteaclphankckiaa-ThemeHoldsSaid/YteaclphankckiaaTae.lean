/- Layer 35: the reference's reading of a line of a tree. -/
import Derived.Test.YteaclphankckiaaTr
import Derived.BigRegion
import Derived.Deep.RegionHeld3
namespace Go.Proofs.Yteaclphankckiaa
open Go Go.RowKit
set_option linter.unusedSimpArgs false
set_option linter.unusedVariables false
attribute [local go_sem ↓] Go.wp_at_zero Go.wp_at_succ

/-- a number below 10 and a blank -/
def hdB (d : Nat) : ByteArray := ⟨#[bx (48 + (d : Int)), 32]⟩
theorem ext_dg (x : Nat) (h : x < 10) : (ByteArray.mk #[48, 49, 50, 51, 52, 53, 54, 55, 56, 57]).extract x (x + 1) = ⟨#[bx (48 + (x : Int))]⟩ := by
  have : x = 0 ∨ x = 1 ∨ x = 2 ∨ x = 3 ∨ x = 4 ∨ x = 5 ∨ x = 6 ∨ x = 7 ∨ x = 8 ∨ x = 9 := by omega
  rcases this with rfl | rfl | rfl | rfl | rfl | rfl | rfl | rfl | rfl | rfl <;> exact ba_eq (by rw [ByteArray.data_extract]; rfl)
theorem hdB_inj {a b : Nat} (ha : a < 10) (hb : b < 10) (h : hdB a = hdB b) : a = b := by
  have h1 : (hdB a).data = (hdB b).data := by rw [h]
  have h2 : (#[bx (48 + (a : Int)), 32] : Array UInt8) = #[bx (48 + (b : Int)), 32] := h1
  have h3 : bx (48 + (a : Int)) = bx (48 + (b : Int)) := by
    have := congrArg (fun z : Array UInt8 => z.toList.headD 0) h2
    exact this
  have := bx_inj (by omega) (by omega) (by omega) (by omega) h3
  omega
theorem rdigits (d : Nat) (w : World) (hd : d < 10) : Calls Try.prog 60 #[.int .i64 (d : Int)] w fun e w' => e = .returned (.string ⟨#[bx (48 + (d : Int))]⟩) ∧ w = w' := by
  have h1 : (d : Int) < 10 := by omega
  have h0 : (0 : Int) ≤ (d : Int) := Int.natCast_nonneg _
  have hw : IntKind.i64.wrap ((d : Int) + 1) = ((d + 1 : Nat) : Int) := IntWalk.i64_in _ (by omega)
  have hx := Lib.hid (ext_dg d hd)
  have h2 : d ≤ d + 1 := Nat.le_succ d
  have h3 : d + 1 ≤ 10 := hd
  go_enter Try.func60, Try.ntmps60
  go_wp2_with fail
  go_ret
  exact ⟨rs hx.out, rfl⟩
theorem hd_cut (d : Nat) (r : ByteArray) : (hdB d ++ r).extract 0 2 = hdB d ∧ (hdB d ++ r).extract 2 (hdB d ++ r).size = r := by
  have h2 : (hdB d).size = 2 := rfl
  constructor
  · have h := ByteArray.extract_append_eq_left (a := hdB d) (b := r) (i := 2) h2.symm
    exact h
  · have h := ByteArray.extract_append_eq_right (a := hdB d) (b := r) (i := 2) (j := (hdB d ++ r).size) h2.symm (by rw [ByteArray.size_append])
    exact h
theorem hd_size (d : Nat) (r : ByteArray) : (hdB d ++ r).size = 2 + r.size := by rw [ByteArray.size_append]; rfl
/-- four cells of a block that may be written -/
structure Qf (w : World) (B : Nat) (x y z u : Value) : Prop where
  c0 : w.cell? ⟨B, 0, none⟩ = some x
  c1 : w.cell? ⟨B, 1, none⟩ = some y
  c2 : w.cell? ⟨B, 2, none⟩ = some z
  c3 : w.cell? ⟨B, 3, none⟩ = some u
  fr : ∀ i, w.frozen? ⟨B, i, none⟩ = false
  lt : B < w.heap.size
theorem Qf.new (w : World) (x y z u : Value) (t : TypeId) : Qf (w.alloc (.cells #[x, y, z, u] t)) w.heap.size x y z u := by
  have h2 := heap_alloc_new w (.cells #[x, y, z, u] t)
  refine ⟨?_, ?_, ?_, ?_, fun i => ?_, by simp⟩
  · rw [cell_of_row _ _ _ _ _ _ h2]; rfl
  · rw [cell_of_row _ _ _ _ _ _ h2]; rfl
  · rw [cell_of_row _ _ _ _ _ _ h2]; rfl
  · rw [cell_of_row _ _ _ _ _ _ h2]; rfl
  · simp only [World.frozen?]; rw [h2]; rfl
theorem Qf.of_block {w w' : World} {B : Nat} {x y z u : Value} (h : Qf w B x y z u) (hb : w'.heap[B]? = w.heap[B]?) (hs : w.heap.size ≤ w'.heap.size) : Qf w' B x y z u :=
  ⟨(World.cell?_of_block hb).trans h.c0, (World.cell?_of_block hb).trans h.c1, (World.cell?_of_block hb).trans h.c2, (World.cell?_of_block hb).trans h.c3, fun i => by have := h.fr i; simp only [World.frozen?] at this ⊢; rw [hb]; exact this, Nat.lt_of_lt_of_le h.lt hs⟩
theorem Qf.next {w w' : World} {B : Nat} {x y z u : Value} (h : Qf w B x y z u) (hb : Below w.heap.size w w') : Qf w' B x y z u := h.of_block (hb.block B h.lt) hb.size
theorem Qf.far {w : World} {B : Nat} {x y z u : Value} (h : Qf w B x y z u) {a : Addr} (ha : a.block ≠ B) (v : Value) : Qf (w.setCell a v) B x y z u :=
  h.of_block (Below.heap_setCell _ _ _ _ (fun e => by first | exact ha e | exact ha e.symm)) (Nat.le_of_eq (nblk_set _ _ _).symm)
theorem Tri.far {w : World} {B : Nat} {x y z : Value} (h : Tri w B x y z) {a : Addr} (ha : a.block ≠ B) (v : Value) : Tri (w.setCell a v) B x y z :=
  h.of_block (Below.heap_setCell _ _ _ _ (fun e => by first | exact ha e | exact ha e.symm)) (Nat.le_of_eq (nblk_set _ _ _).symm)
theorem Qf.s0 {w : World} {B : Nat} {x y z u : Value} (h : Qf w B x y z u) (v : Value) : Qf (w.setCell ⟨B, 0, none⟩ v) B v y z u :=
  ⟨World.cell?_setCell_same' _ _ _ (by rw [h.c0]; rfl), (cell_off _ _ _ _ _ (by decide)).trans h.c1, (cell_off _ _ _ _ _ (by decide)).trans h.c2, (cell_off _ _ _ _ _ (by decide)).trans h.c3, fun i => by rw [World.frozen?_setCell]; exact h.fr i, by rw [nblk_set]; exact h.lt⟩
theorem Qf.s1 {w : World} {B : Nat} {x y z u : Value} (h : Qf w B x y z u) (v : Value) : Qf (w.setCell ⟨B, 1, none⟩ v) B x v z u :=
  ⟨(cell_off _ _ _ _ _ (by decide)).trans h.c0, World.cell?_setCell_same' _ _ _ (by rw [h.c1]; rfl), (cell_off _ _ _ _ _ (by decide)).trans h.c2, (cell_off _ _ _ _ _ (by decide)).trans h.c3, fun i => by rw [World.frozen?_setCell]; exact h.fr i, by rw [nblk_set]; exact h.lt⟩
theorem Qf.s2 {w : World} {B : Nat} {x y z u : Value} (h : Qf w B x y z u) (v : Value) : Qf (w.setCell ⟨B, 2, none⟩ v) B x y v u :=
  ⟨(cell_off _ _ _ _ _ (by decide)).trans h.c0, (cell_off _ _ _ _ _ (by decide)).trans h.c1, World.cell?_setCell_same' _ _ _ (by rw [h.c2]; rfl), (cell_off _ _ _ _ _ (by decide)).trans h.c3, fun i => by rw [World.frozen?_setCell]; exact h.fr i, by rw [nblk_set]; exact h.lt⟩
theorem Qf.s3 {w : World} {B : Nat} {x y z u : Value} (h : Qf w B x y z u) (v : Value) : Qf (w.setCell ⟨B, 3, none⟩ v) B x y z v :=
  ⟨(cell_off _ _ _ _ _ (by decide)).trans h.c0, (cell_off _ _ _ _ _ (by decide)).trans h.c1, (cell_off _ _ _ _ _ (by decide)).trans h.c2, World.cell?_setCell_same' _ _ _ (by rw [h.c3]; rfl), fun i => by rw [World.frozen?_setCell]; exact h.fr i, by rw [nblk_set]; exact h.lt⟩
/-- a record of four cells is stored -/
theorem Qf.set {w : World} {B : Nat} {x y z u : Value} (h : Qf w B x y z u) (x' y' z' u' : Value) : Qf ((((w.setCell ⟨B, 0, none⟩ x').setCell ⟨B, 1, none⟩ y').setCell ⟨B, 2, none⟩ z').setCell ⟨B, 3, none⟩ u') B x' y' z' u' := (((h.s0 x').s1 y').s2 z').s3 u'
theorem below_set4 {b : Nat} {W0 W : World} (h : Below b W0 W) {B : Nat} (hB : b ≤ B) (x y z u : Value) : Below b W0 ((((W.setCell ⟨B, 0, none⟩ x).setCell ⟨B, 1, none⟩ y).setCell ⟨B, 2, none⟩ z).setCell ⟨B, 3, none⟩ u) :=
  (((h.setCell (p := ⟨B, 0, none⟩) hB x).setCell (p := ⟨B, 1, none⟩) hB y).setCell (p := ⟨B, 2, none⟩) hB z).setCell (p := ⟨B, 3, none⟩) hB u
set_option maxRecDepth 100000 in
set_option maxHeartbeats 4000000 in
theorem rnode (f q : Int) (d most : Nat) (s r : ByteArray) (a b p : Int) (w : World) (hz : szB f q = true) (hd1 : 1 ≤ d) (hdm : d ≤ most) (hm : most < 10) (hs : hdB d ++ r = s) (hr0 : 0 < r.size) (hr1 : r.size ≤ 100) (hmv : mvS f q r = (true, a, b, p)) :
    Calls Try.prog 56 #[.agg #[.int .i64 f, .int .i64 q], .string s, .int .i64 (most : Int)] w fun e w' => e = .returned (.tuple #[.agg #[.int .i64 (d : Int), .int .i64 a, .int .i64 b, .int .i8 p], .bool true]) ∧ Below w.heap.size w w' := by
  obtain ⟨hx0, hx1⟩ := hd_cut d r
  have hsz := hd_size d r
  rw [hs] at hx0 hx1 hsz
  have hsl : s.size ≤ 102 := by omega
  have hs2 : 2 < s.size := by omega
  have hsI : (2 : Int) < (s.size : Int) := by omega
  have hmvH : Hid (∀ W, Calls Try.prog 61 #[.agg #[.int .i64 f, .int .i64 q], .string r] W fun e w' => e = .returned (.tuple #[.agg #[.int .i64 a, .int .i64 b, .int .i8 p], .bool true]) ∧ Below W.heap.size W w') := fun W => by
    have h := rmp f q r W hz (by unfold maxLen; omega)
    rw [hmv] at h
    exact h
  have hS := Sz2.new w f q 23
  have hbs : Below (w.alloc (.cells #[.int .i64 f, .int .i64 q] 23)).heap.size (w.alloc (.cells #[.int .i64 f, .int .i64 q] 23)) ((w.alloc (.cells #[.int .i64 f, .int .i64 q] 23)).alloc (.cells #[.int .i64 0, .int .i64 0, .int .i64 0, .int .i8 0] 59)) := (Below.refl _ _).alloc (Nat.le_refl _) _
  have hb3 : Hid (Below w.heap.size w ((w.alloc (.cells #[.int .i64 f, .int .i64 q] 23)).alloc (.cells #[.int .i64 0, .int .i64 0, .int .i64 0, .int .i8 0] 59))) := ((Below.refl _ _).alloc (Nat.le_refl _) _).alloc (by simp) _
  have hS3 := Lib.hid (hS.next hbs)
  have hs3 : ((w.alloc (.cells #[.int .i64 f, .int .i64 q] 23)).alloc (.cells #[.int .i64 0, .int .i64 0, .int .i64 0, .int .i8 0] 59)).heap.size = w.heap.size + 1 + 1 := by simp
  clear hS hbs hs hsz hmv
  go_enter Try.func56, Try.ntmps56
  go_upto_region 1 with fail
  have hN3 : Hid (Qf ((w.alloc (.cells #[.int .i64 f, .int .i64 q] 23)).alloc (.cells #[.int .i64 0, .int .i64 0, .int .i64 0, .int .i8 0] 59)) (w.heap.size + 1) (.int .i64 0) (.int .i64 0) (.int .i64 0) (.int .i8 0)) := by
    have h := Qf.new (w.alloc (.cells #[.int .i64 f, .int .i64 q] 23)) (.int .i64 0) (.int .i64 0) (.int .i64 0) (.int .i8 0) 59
    rwa [show (w.alloc (.cells #[.int .i64 f, .int .i64 q] 23)).heap.size = w.heap.size + 1 by simp] at h
  generalize (w.alloc (.cells #[.int .i64 f, .int .i64 q] 23)).alloc (.cells #[.int .i64 0, .int .i64 0, .int .i64 0, .int .i8 0] 59) = w3 at *
  go_wp2_with fail
  go_loop [8] (fun i => ∃ j : Nat, 1 ≤ j ∧ j ≤ d ∧ i = .int .i64 j) (fun i => 10 - (intOf i).toNat)
  case atStart => exact ⟨1, Nat.le_refl _, hd1, rfl⟩
  case round =>
    obtain ⟨j, hj1, hjd, rfl⟩ := hrel
    have hj10 : j < 10 := by omega
    have hjI : (j : Int) ≤ (most : Int) := by omega
    have hj0 : (0 : Int) ≤ (j : Int) := Int.natCast_nonneg _
    have hcat : (⟨#[bx (48 + (j : Int))]⟩ : ByteArray) ++ ⟨#[32]⟩ = hdB j := rfl
    have hcs : (hdB j).size = 2 := rfl
    by_cases hje : j = d
    · have hE : ((s.extract 0 2).toList == (hdB j).toList) = true := by rw [hx0, hje]; exact beq_self_eq_true _
      have hjd' := Lib.hid hje
      replace hx0 := Lib.hid hx0
      clear hje
      go_upto_region 6 with (go_at_call 60; refine (rdigits j _ hj10).mono ?_; rintro e w' ⟨rfl, rfl⟩)
      have c0 := hS3.out.c0
      have c1 := hS3.out.c1
      have hss := Lib.hid hs3
      clear hs3
      have hs22 : (2 : Int) ≤ (s.size : Int) := by omega
      have hs23 : 2 ≤ s.size := by omega
      have hs24 : (0 : Int) ≤ (s.size : Int) := by omega
      refine wp_region_held_drew (S := (fun W => W.cell? ⟨w.heap.size, 0, none⟩ = some (.int .i64 f) ∧ W.cell? ⟨w.heap.size, 1, none⟩ = some (.int .i64 q))) (by kernel_rfl) ⟨c0, c1⟩ (fun hHeld => ?_)
      refine wpAnyH_take (i := 0) (v := ?_) rfl (by kernel_rfl) (by kernel_rfl) (by kernel_rfl) (fun _ _ _ h => h) (Or.inl ⟨by rfl, ?_⟩) hHeld ?_
      rotate_left
      · intro W9 hSw; (try dsimp only at hSw); go_simp; (try with_reducible rfl)
      simp only [Act.put, List.getElem_toArray, List.getElem_cons_zero, List.getElem_cons_succ, List.setIfInBounds_toArray, List.set_cons_zero, List.set_cons_succ]
      refine wpAnyH_take (i := 1) (v := ?_) rfl (by kernel_rfl) (by kernel_rfl) (by kernel_rfl) (fun _ _ _ h => h) (Or.inl ⟨by rfl, ?_⟩) hHeld ?_
      rotate_left
      · intro W9 hSw; (try dsimp only at hSw); go_simp; (try with_reducible rfl)
      simp only [Act.put, List.getElem_toArray, List.getElem_cons_zero, List.getElem_cons_succ, List.setIfInBounds_toArray, List.set_cons_zero, List.set_cons_succ]
      refine wpAnyH_take (i := 2) (v := ?_) rfl (by kernel_rfl) (by kernel_rfl) (by kernel_rfl) (fun _ _ _ h => h) (Or.inl ⟨by rfl, ?_⟩) hHeld ?_
      rotate_left
      · intro W9 hSw; (try dsimp only at hSw); go_simp; (try with_reducible rfl)
      simp only [Act.put, List.getElem_toArray, List.getElem_cons_zero, List.getElem_cons_succ, List.setIfInBounds_toArray, List.set_cons_zero, List.set_cons_succ]
      refine wpAnyH_take (i := 3) (v := ?_) rfl (by kernel_rfl) (by kernel_rfl) (by kernel_rfl) (fun _ _ _ h => h) (Or.inl ⟨by rfl, ?_⟩) hHeld ?_
      rotate_left
      · intro W9 hSw; (try dsimp only at hSw); go_simp; (try with_reducible rfl)
      simp only [Act.put, List.getElem_toArray, List.getElem_cons_zero, List.getElem_cons_succ, List.setIfInBounds_toArray, List.set_cons_zero, List.set_cons_succ]
      refine wpAnyH_take (i := 4) (v := ?_) rfl (by kernel_rfl) (by kernel_rfl) (by kernel_rfl) (fun _ _ _ h => h) (Or.inl ⟨by rfl, ?_⟩) hHeld ?_
      rotate_left
      · intro W9 hSw; (try dsimp only at hSw); go_simp; (try with_reducible rfl)
      simp only [Act.put, List.getElem_toArray, List.getElem_cons_zero, List.getElem_cons_succ, List.setIfInBounds_toArray, List.set_cons_zero, List.set_cons_succ]
      refine wpAnyH_ready (rs := [5, 9]) (by kernel_rfl) (by simp) ?_
      refine AllReadyH.cons rfl (fun K hK => ?_) (AllReadyH.cons rfl (fun K hK => ?_) AllReadyH.nil)
      · go_simp
        go_at_call 61
        refine (hmvH.out _).mono ?_
        rintro e w5 ⟨rfl, hbv⟩
        replace hbv : Hid (Below w3.heap.size w3 w5) := undrew hbv
        refine hK.out _ _ ⟨(hS3.out.next hbv.out).c0, (hS3.out.next hbv.out).c1⟩ (fun hHeld2 => ?_)
        clear hK K hHeld
        have hHeld := hHeld2
        clear hHeld2 c0 c1
        refine wpAnyH_take (i := 6) (v := ?_) rfl (by kernel_rfl) (by kernel_rfl) (by kernel_rfl) (fun _ _ _ h => h) (Or.inl ⟨by rfl, ?_⟩) hHeld ?_
        rotate_left
        · intro W9 hSw; (try dsimp only at hSw); go_simp; (try with_reducible rfl)
        simp only [Act.put, List.getElem_toArray, List.getElem_cons_zero, List.getElem_cons_succ, List.setIfInBounds_toArray, List.set_cons_zero, List.set_cons_succ]
        refine wpAnyH_take (i := 7) (v := ?_) rfl (by kernel_rfl) (by kernel_rfl) (by kernel_rfl) (fun _ _ _ h => h) (Or.inl ⟨by rfl, ?_⟩) hHeld ?_
        rotate_left
        · intro W9 hSw; (try dsimp only at hSw); go_simp; (try with_reducible rfl)
        simp only [Act.put, List.getElem_toArray, List.getElem_cons_zero, List.getElem_cons_succ, List.setIfInBounds_toArray, List.set_cons_zero, List.set_cons_succ]
        refine wpAnyH_take (i := 8) (v := ?_) rfl (by kernel_rfl) (by kernel_rfl) (by kernel_rfl) (fun _ _ _ h => h) (Or.inl ⟨by rfl, ?_⟩) hHeld ?_
        rotate_left
        · intro W9 hSw; (try dsimp only at hSw); go_simp; (try with_reducible rfl)
        simp only [Act.put, List.getElem_toArray, List.getElem_cons_zero, List.getElem_cons_succ, List.setIfInBounds_toArray, List.set_cons_zero, List.set_cons_succ]
        have hb5 : Hid (Below w5.heap.size w5 (w5.alloc (.cells #[.int .i64 0, .int .i64 0, .int .i8 0] 57))) := (Below.refl _ _).alloc (Nat.le_refl _) _
        have hb5' : Hid (Below w5.heap.size w5 (w5.alloc (.cells #[.int .i64 a, .int .i64 b, .int .i8 p] 57))) := (Below.refl _ _).alloc (Nat.le_refl _) _
        have hb35 := Lib.hid (hbv.out.trans (hb5.out.mono hbv.out.size))
        have hb35' := Lib.hid (hbv.out.trans (hb5'.out.mono hbv.out.size))
        have hb8 := Lib.hid (hb3.out.trans (hb35'.out.mono (by have := hss.out; omega)))
        have hT6 := Lib.hid (tri_new w5 w5.heap.size (.int .i64 0) (.int .i64 0) (.int .i8 0) 57 rfl)
        have hT8 := Lib.hid (tri_new w5 w5.heap.size (.int .i64 a) (.int .i64 b) (.int .i8 p) 57 rfl)
        have hN8 := Lib.hid (hN3.out.next hb35'.out)
        refine wpAnyH_ready (rs := [9]) (by kernel_rfl) (by simp) ?_
        refine AllReadyH.cons rfl (fun K hK => ?_) AllReadyH.nil
        go_simp
        refine hK.out _ _ (⟨(hS3.out.next hb35.out).c0, (hS3.out.next hb35.out).c1⟩) (fun hHeld2 => ?_)
        clear hK K hHeld
        have hHeld := hHeld2
        clear hHeld2
        have t0 := hT6.out.c0
        have t1 := hT6.out.c1
        have t2 := hT6.out.c2
        have fz := hT6.out.fr
        refine wpAnyH_ready (rs := [10]) (by kernel_rfl) (by simp) ?_
        refine AllReadyH.cons rfl (fun K hK => ?_) AllReadyH.nil
        go_simp
        refine hK.out _ _ (⟨(hS3.out.next hb35'.out).c0, (hS3.out.next hb35'.out).c1⟩) (fun hHeld2 => ?_)
        clear hK K hHeld
        have hHeld := hHeld2
        clear hHeld2
        clear t0 t1 t2 fz
        refine wpAnyH_take (i := 11) (v := ?_) rfl (by kernel_rfl) (by kernel_rfl) (by kernel_rfl) (fun _ _ _ h => h) (Or.inl ⟨by rfl, ?_⟩) hHeld ?_
        rotate_left
        · intro W9 hSw; (try dsimp only at hSw); go_simp; (try with_reducible rfl)
        simp only [Act.put, List.getElem_toArray, List.getElem_cons_zero, List.getElem_cons_succ, List.setIfInBounds_toArray, List.set_cons_zero, List.set_cons_succ]
        refine wpAnyH_done (by kernel_rfl) ?_ _
        clear hHeld
        generalize (w5.alloc (.cells #[.int .i64 a, .int .i64 b, .int .i8 p] 57)) = w8 at *
        have t0 := hT8.out.c0
        have t1 := hT8.out.c1
        have t2 := hT8.out.c2
        have n0 := hN8.out.c0
        have n1 := hN8.out.c1
        have n2 := hN8.out.c2
        have n3 := hN8.out.c3
        have nf := hN8.out.fr
        have hN9 := Lib.hid (hN8.out.set (.int .i64 (j : Int)) (.int .i64 a) (.int .i64 b) (.int .i8 p))
        have hb9 := Lib.hid (below_set4 hb8.out (show w.heap.size ≤ w.heap.size + 1 by omega) (.int .i64 (j : Int)) (.int .i64 a) (.int .i64 b) (.int .i8 p))
        go_wp2_with fail
        clear t0 t1 t2 n0 n1 n2 n3 nf
        generalize (((w8.setCell ⟨w.heap.size + 1, 0, none⟩ (.int .i64 (j : Int))).setCell ⟨w.heap.size + 1, 1, none⟩ (.int .i64 a)).setCell ⟨w.heap.size + 1, 2, none⟩ (.int .i64 b)).setCell ⟨w.heap.size + 1, 3, none⟩ (.int .i8 p) = w9 at *
        have n0 := hN9.out.c0
        have n1 := hN9.out.c1
        have n2 := hN9.out.c2
        have n3 := hN9.out.c3
        have hje := hjd'.out
        subst hje
        refine bodyPost_ret (v := .tuple #[.agg #[.int .i64 (j : Int), .int .i64 a, .int .i64 b, .int .i8 p], .bool true]) ?_ rfl ⟨rfl, hb9.out⟩
        simp [results, Try.results56, go_sem, n0, n1, n2, n3]
      · go_simp
        have hb5 : Hid (Below w3.heap.size w3 (w3.alloc (.cells #[.int .i64 0, .int .i64 0, .int .i8 0] 57))) := (Below.refl _ _).alloc (Nat.le_refl _) _
        refine hK.out _ _ ⟨(hS3.out.next hb5.out).c0, (hS3.out.next hb5.out).c1⟩ (fun hHeld2 => ?_)
        clear hK K hHeld
        have hHeld := hHeld2
        clear hHeld2 c0 c1
        have hT5 := Lib.hid (tri_new w3 w3.heap.size (.int .i64 0) (.int .i64 0) (.int .i8 0) 57 rfl)
        have hs5 : (w3.alloc (.cells #[.int .i64 0, .int .i64 0, .int .i8 0] 57)).heap.size = w3.heap.size + 1 := by simp
        generalize hw4 : w3.alloc (.cells #[.int .i64 0, .int .i64 0, .int .i8 0] 57) = w4 at *
        clear hw4
        replace hs5 := Lib.hid hs5
        refine wpAnyH_ready (rs := [5]) (by kernel_rfl) (by simp) ?_
        refine AllReadyH.cons rfl (fun K hK => ?_) AllReadyH.nil
        go_simp
        go_at_call 61
        refine (hmvH.out _).mono ?_
        rintro e w5 ⟨rfl, hbv⟩
        replace hbv : Hid (Below w4.heap.size w4 w5) := undrew hbv
        have hb35 := Lib.hid (hb5.out.trans (hbv.out.mono (by have := hs5.out; omega)))
        refine hK.out _ _ ⟨(hS3.out.next hb35.out).c0, (hS3.out.next hb35.out).c1⟩ (fun hHeld2 => ?_)
        clear hK K hHeld
        have hHeld := hHeld2
        clear hHeld2
        refine wpAnyH_take (i := 6) (v := ?_) rfl (by kernel_rfl) (by kernel_rfl) (by kernel_rfl) (fun _ _ _ h => h) (Or.inl ⟨by rfl, ?_⟩) hHeld ?_
        rotate_left
        · intro W9 hSw; (try dsimp only at hSw); go_simp; (try with_reducible rfl)
        simp only [Act.put, List.getElem_toArray, List.getElem_cons_zero, List.getElem_cons_succ, List.setIfInBounds_toArray, List.set_cons_zero, List.set_cons_succ]
        refine wpAnyH_take (i := 7) (v := ?_) rfl (by kernel_rfl) (by kernel_rfl) (by kernel_rfl) (fun _ _ _ h => h) (Or.inl ⟨by rfl, ?_⟩) hHeld ?_
        rotate_left
        · intro W9 hSw; (try dsimp only at hSw); go_simp; (try with_reducible rfl)
        simp only [Act.put, List.getElem_toArray, List.getElem_cons_zero, List.getElem_cons_succ, List.setIfInBounds_toArray, List.set_cons_zero, List.set_cons_succ]
        refine wpAnyH_take (i := 8) (v := ?_) rfl (by kernel_rfl) (by kernel_rfl) (by kernel_rfl) (fun _ _ _ h => h) (Or.inl ⟨by rfl, ?_⟩) hHeld ?_
        rotate_left
        · intro W9 hSw; (try dsimp only at hSw); go_simp; (try with_reducible rfl)
        simp only [Act.put, List.getElem_toArray, List.getElem_cons_zero, List.getElem_cons_succ, List.setIfInBounds_toArray, List.set_cons_zero, List.set_cons_succ]
        have hT6 := Lib.hid (hT5.out.next hbv.out)
        have hN6 := Lib.hid (hN3.out.next hb35.out)
        have hb6 := Lib.hid (hb3.out.trans (hb35.out.mono (by have := hss.out; omega)))
        have hBne : w3.heap.size ≠ w.heap.size + 1 := by have := hss.out; omega
        have hBle : w.heap.size ≤ w3.heap.size := by have := hss.out; omega
        have hT8 := Lib.hid (hT6.out.set (.int .i64 a) (.int .i64 b) (.int .i8 p))
        have hN8 : Hid (Qf (((w5.setCell ⟨w3.heap.size, 0, none⟩ (.int .i64 a)).setCell ⟨w3.heap.size, 1, none⟩ (.int .i64 b)).setCell ⟨w3.heap.size, 2, none⟩ (.int .i8 p)) (w.heap.size + 1) (.int .i64 0) (.int .i64 0) (.int .i64 0) (.int .i8 0)) := ((hN6.out.far (a := ⟨w3.heap.size, 0, none⟩) hBne _).far (a := ⟨w3.heap.size, 1, none⟩) hBne _).far (a := ⟨w3.heap.size, 2, none⟩) hBne _
        have hb8 : Hid (Below w.heap.size w (((w5.setCell ⟨w3.heap.size, 0, none⟩ (.int .i64 a)).setCell ⟨w3.heap.size, 1, none⟩ (.int .i64 b)).setCell ⟨w3.heap.size, 2, none⟩ (.int .i8 p))) := below_set3 hb6.out hBle _ _ _
        have hS9 : Hid ((((w5.setCell ⟨w3.heap.size, 0, none⟩ (.int .i64 a)).setCell ⟨w3.heap.size, 1, none⟩ (.int .i64 b)).setCell ⟨w3.heap.size, 2, none⟩ (.int .i8 p)).cell? ⟨w.heap.size, 0, none⟩ = some (.int .i64 f) ∧ (((w5.setCell ⟨w3.heap.size, 0, none⟩ (.int .i64 a)).setCell ⟨w3.heap.size, 1, none⟩ (.int .i64 b)).setCell ⟨w3.heap.size, 2, none⟩ (.int .i8 p)).cell? ⟨w.heap.size, 1, none⟩ = some (.int .i64 q)) := by
          have hq : ∀ (W : World) (i k : Nat) (v : Value), (W.setCell ⟨w3.heap.size, k, none⟩ v).cell? ⟨w.heap.size, i, none⟩ = W.cell? ⟨w.heap.size, i, none⟩ := fun W i k v => World.cell?_setCell_far _ _ _ _ (by show w3.heap.size ≠ w.heap.size; have := hss.out; omega)
          exact ⟨(hq _ _ _ _).trans ((hq _ _ _ _).trans ((hq _ _ _ _).trans (hS3.out.next hb35.out).c0)), (hq _ _ _ _).trans ((hq _ _ _ _).trans ((hq _ _ _ _).trans (hS3.out.next hb35.out).c1))⟩
        have t0 := hT6.out.c0
        have t1 := hT6.out.c1
        have t2 := hT6.out.c2
        have fz := hT6.out.fr
        refine wpAnyH_ready (rs := [10]) (by kernel_rfl) (by simp) ?_
        refine AllReadyH.cons rfl (fun K hK => ?_) AllReadyH.nil
        go_simp
        refine hK.out _ _ (hS9.out) (fun hHeld2 => ?_)
        clear hK K hHeld
        have hHeld := hHeld2
        clear hHeld2
        clear t0 t1 t2 fz
        refine wpAnyH_take (i := 11) (v := ?_) rfl (by kernel_rfl) (by kernel_rfl) (by kernel_rfl) (fun _ _ _ h => h) (Or.inl ⟨by rfl, ?_⟩) hHeld ?_
        rotate_left
        · intro W9 hSw; (try dsimp only at hSw); go_simp; (try with_reducible rfl)
        simp only [Act.put, List.getElem_toArray, List.getElem_cons_zero, List.getElem_cons_succ, List.setIfInBounds_toArray, List.set_cons_zero, List.set_cons_succ]
        refine wpAnyH_done (by kernel_rfl) ?_ _
        clear hHeld
        generalize ((w5.setCell ⟨w3.heap.size, 0, none⟩ (.int .i64 a)).setCell ⟨w3.heap.size, 1, none⟩ (.int .i64 b)).setCell ⟨w3.heap.size, 2, none⟩ (.int .i8 p) = w8 at *
        have t0 := hT8.out.c0
        have t1 := hT8.out.c1
        have t2 := hT8.out.c2
        have n0 := hN8.out.c0
        have n1 := hN8.out.c1
        have n2 := hN8.out.c2
        have n3 := hN8.out.c3
        have nf := hN8.out.fr
        have hN9 := Lib.hid (hN8.out.set (.int .i64 (j : Int)) (.int .i64 a) (.int .i64 b) (.int .i8 p))
        have hb9 := Lib.hid (below_set4 hb8.out (show w.heap.size ≤ w.heap.size + 1 by omega) (.int .i64 (j : Int)) (.int .i64 a) (.int .i64 b) (.int .i8 p))
        go_wp2_with fail
        clear t0 t1 t2 n0 n1 n2 n3 nf
        generalize (((w8.setCell ⟨w.heap.size + 1, 0, none⟩ (.int .i64 (j : Int))).setCell ⟨w.heap.size + 1, 1, none⟩ (.int .i64 a)).setCell ⟨w.heap.size + 1, 2, none⟩ (.int .i64 b)).setCell ⟨w.heap.size + 1, 3, none⟩ (.int .i8 p) = w9 at *
        have n0 := hN9.out.c0
        have n1 := hN9.out.c1
        have n2 := hN9.out.c2
        have n3 := hN9.out.c3
        have hje := hjd'.out
        subst hje
        refine bodyPost_ret (v := .tuple #[.agg #[.int .i64 (j : Int), .int .i64 a, .int .i64 b, .int .i8 p], .bool true]) ?_ rfl ⟨rfl, hb9.out⟩
        simp [results, Try.results56, go_sem, n0, n1, n2, n3]
    · have hE : ((s.extract 0 2).toList == (hdB j).toList) = false := list_ne (by rw [hx0]; exact fun e => hje (hdB_inj (by omega) (by omega) e).symm)
      have hjd' := Lib.hid hje
      replace hx0 := Lib.hid hx0
      go_wp2_with (go_at_call 60; refine (rdigits j _ hj10).mono ?_; rintro e w' ⟨rfl, rfl⟩)
      go_round
      case rel => exact ⟨j + 1, by omega, by have := hjd'.out; omega, by go_num⟩
      case measure => simp [intOf]; omega
end Go.Proofs.Yteaclphankckiaa
