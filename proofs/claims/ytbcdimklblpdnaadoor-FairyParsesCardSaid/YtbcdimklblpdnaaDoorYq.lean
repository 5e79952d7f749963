/- Layer 27: worlds that differ in some blocks; the program's walk with a visitor. -/
import Derived.Test.YtbcdimklblpdnaaDoorYk
import Derived.Deep.LoopGhost
import Derived.Shelf.Abstract
namespace Go.Proofs.YtbcdimklblpdnaaDoor
open Go Go.RowKit
set_option linter.unusedSimpArgs false
set_option linter.unusedVariables false
/-- nothing but these blocks has turned -/
structure Chg (S : List Nat) (w w' : World) : Prop where
  os : w'.os = w.os
  tape : w'.tape = w.tape
  output : w'.output = w.output
  size : w.heap.size ≤ w'.heap.size
  block : ∀ k, k < w.heap.size → k ∉ S → w'.heap[k]? = w.heap[k]?
theorem Chg.refl (S : List Nat) (w : World) : Chg S w w := ⟨rfl, rfl, rfl, Nat.le_refl _, fun _ _ _ => rfl⟩
theorem Chg.trans {S : List Nat} {a b c : World} (h : Chg S a b) (h2 : Chg S b c) : Chg S a c :=
  ⟨h2.os.trans h.os, h2.tape.trans h.tape, h2.output.trans h.output, Nat.le_trans h.size h2.size, fun k hk hn => (h2.block k (Nat.lt_of_lt_of_le hk h.size) hn).trans (h.block k hk hn)⟩
theorem Chg.of_below {S : List Nat} {w w' : World} (h : Below w.heap.size w w') : Chg S w w' := ⟨h.os, h.tape, h.output, h.size, fun k hk _ => h.block k hk⟩
theorem Chg.below {w w' : World} {B : Nat} {S : List Nat} (h : Chg S w w') (hB : B ≤ w.heap.size) (hS : ∀ b ∈ S, B ≤ b) : Below B w w' :=
  ⟨h.os, h.tape, h.output, h.size, fun k hk => h.block k (by omega) (fun hm => by have := hS k hm; omega)⟩
theorem Chg.cell {S : List Nat} {w w' : World} (h : Chg S w w') {p : Addr} (hp : p.block < w.heap.size) (hn : p.block ∉ S) : w'.cell? p = w.cell? p := World.cell?_of_block (h.block p.block hp hn)
theorem Chg.setCell {S : List Nat} {w w' : World} (h : Chg S w w') {B : Nat} (hB : B ∈ S) (i : Nat) (x : Value) : Chg S w (w'.setCell ⟨B, i, none⟩ x) := by
  refine h.trans ⟨rfl, rfl, rfl, by rw [nblk_set]; exact Nat.le_refl _, fun k hk hn => ?_⟩
  have hne : B ≠ k := fun e => hn (e ▸ hB)
  simp [World.setCell, Array.getElem?_modify, hne]
theorem Chg.drewN {S : List Nat} {w w' : World} (h : Chg S w w') (n : Nat) : Chg S w (w'.drewN n) := ⟨h.os, h.tape, h.output, h.size, h.block⟩
theorem Chg.drew {S : List Nat} {w w' : World} (h : Chg S w w') : Chg S w w'.drew := ⟨h.os, h.tape, h.output, h.size, h.block⟩
theorem KS.chg {S : List Nat} {w w' : World} {B : Nat} {x y : Int} (h : KS w B x y) (hc : Chg S w w') (hn : B ∉ S) : KS w' B x y :=
  ⟨(hc.cell (p := ⟨B, _, none⟩) h.lt hn).trans h.c0, (hc.cell (p := ⟨B, _, none⟩) h.lt hn).trans h.c1, Nat.lt_of_lt_of_le h.lt hc.size⟩
theorem KS.newZ (w : World) (x y : Int) : KS (w.alloc (.cells #[.int .i64 x, .int .i64 y] 45)) w.heap.size x y :=
  ⟨by rw [cell_of_row _ _ _ _ _ _ (heap_alloc_new w _)]; rfl, by rw [cell_of_row _ _ _ _ _ _ (heap_alloc_new w _)]; rfl, by simp⟩
theorem sqK_val {f r a : Nat} {sf sr X Y : Int} {k : Nat} (hX : X = ((a % f : Nat) : Int) + (k : Int) * sf) (hY : Y = ((a / f : Nat) : Int) + (k : Int) * sr) : sqK f r a sf sr k = if inB X 0 ((f : Int) - 1) && inB Y 0 ((r : Int) - 1) then X + Y * f else -1 := by
  subst hX hY; rfl
set_option maxRecDepth 100000 in
set_option maxHeartbeats 1000000 in
theorem pwalk (f r a : Nat) (sf sr : Int) (ps : List Int) (h : Dir f r a sf sr ps) (g : Nat) (cb : Array Value) (S : List Nat) (Inv : Nat → World → Prop) (Fin : World → Prop) (w : World)
    (eg : ∀ args w, (callFunc g args).run Tryd.prog w = .ok (.enter g args) w) (hS : ∀ b ∈ S, b < w.heap.size) (h0 : ∀ W, Below w.heap.size w W → Inv 0 W)
    (hvis : ∀ k W, Inv k W → 0 ≤ sqK f r a sf sr (k + 1) → Calls Tryd.prog g (#[.int .i64 (sqK f r a sf sr (k + 1))] ++ cb) W fun e w' => Chg S W w' ∧ ((e = .returned (.bool true) ∧ Inv (k + 1) w') ∨ (e = .returned (.bool false) ∧ Fin w')))
    (hend : ∀ k W, Inv k W → ¬ 0 ≤ sqK f r a sf sr (k + 1) → Fin W) :
    Calls Tryd.prog 67 #[.agg #[.int .i64 (f : Int), .int .i64 (r : Int)], .int .i64 (a : Int), .agg #[.int .i64 sf, .int .i64 sr], .func (.func g) #[] cb] w fun e w' => e = .returned (.tuple #[]) ∧ Fin w' ∧ Chg S w w' := by
  obtain ⟨u, hu⟩ : ∃ u, (w.alloc (.cells #[.int .i64 (f : Int), .int .i64 (r : Int)] 45)).alloc (.cells #[.int .i64 sf, .int .i64 sr] 43) = u := ⟨_, rfl⟩
  have hbA : Below w.heap.size w (w.alloc (.cells #[.int .i64 (f : Int), .int .i64 (r : Int)] 45)) := (Below.refl _ _).alloc (Nat.le_refl _) _
  have hbB : Below (w.alloc (.cells #[.int .i64 (f : Int), .int .i64 (r : Int)] 45)).heap.size (w.alloc (.cells #[.int .i64 (f : Int), .int .i64 (r : Int)] 45)) ((w.alloc (.cells #[.int .i64 (f : Int), .int .i64 (r : Int)] 45)).alloc (.cells #[.int .i64 sf, .int .i64 sr] 43)) := (Below.refl _ _).alloc (Nat.le_refl _) _
  have e1 : (w.alloc (.cells #[.int .i64 (f : Int), .int .i64 (r : Int)] 45)).heap.size = w.heap.size + 1 := by simp
  have hZ0 : KS u w.heap.size f r := hu ▸ (KS.newZ w f r).next hbB
  have hT0 : KS u (w.heap.size + 1) sf sr := by
    have h1 := KS.new (w.alloc (.cells #[.int .i64 (f : Int), .int .i64 (r : Int)] 45)) sf sr
    rw [e1] at h1
    exact hu ▸ h1
  have hb0 : Below w.heap.size w u := hu ▸ hbA.trans (hbB.mono hbA.size)
  have hZ := Lib.hid hZ0
  have hT := Lib.hid hT0
  have hb1 := Lib.hid hb0
  have hD := Lib.hid h
  have hn0 : Hid (w.heap.size ∉ S) := fun hm => by have := hS _ hm; omega
  have hn1 : Hid (w.heap.size + 1 ∉ S) := fun hm => by have := hS _ hm; omega
  have h0H : Hid (∀ n, Inv 0 (u.drewN n)) := fun n => h0 _ (below_drewN hb0 n)
  have hvH := Lib.hid hvis
  have heH := Lib.hid hend
  have f0 := h.f0
  have f1 := h.f1
  have r0 := h.r0
  have r1 := h.r1
  have ha := h.a0
  have hfr : f * r ≤ 64 := Nat.mul_le_mul f1 r1
  have hpl := h.place
  have hxy : Hid (∀ k : Nat, k ≤ 20 → (-1000 ≤ (k : Int) * sf ∧ (k : Int) * sf ≤ 1000) ∧ (-1000 ≤ (k : Int) * sr ∧ (k : Int) * sr ≤ 1000)) := fun k hk => ⟨mul_bd7 hk h.s0, mul_bd7 hk h.s1⟩
  have hs0 := h.s0
  have hs1 := h.s1
  obtain ⟨X0, hX0⟩ : ∃ X0, a % f = X0 := ⟨_, rfl⟩
  obtain ⟨Y0, hY0⟩ : ∃ Y0, a / f = Y0 := ⟨_, rfl⟩
  rw [hX0, hY0] at hpl
  have m1 : (a : Int) % (f : Int) = (X0 : Int) := by rw [← hX0]; rfl
  have m2 : (a : Int) / (f : Int) = (Y0 : Int) := by rw [← hY0]; rfl
  have m3 : wrap64 (Y0 : Int) = (Y0 : Int) := by unfold wrap64; omega
  have hX0H := Lib.hid hX0
  have hY0H := Lib.hid hY0
  clear hX0 hY0
  clear hbA hbB e1 hZ0 hT0 hb0 h hS h0 hvis hend
  go_enter Tryd.func67, Tryd.ntmps67
  go_upto_region 1 with fail
  generalize w.heap.size = B0 at hZ hT hn0 hn1 ⊢
  simp only [hu] at *
  clear hu
  obtain ⟨z0, z1, _⟩ := hZ.out
  obtain ⟨t0, t1, _⟩ := hT.out
  have hf0 : (f : Int) ≠ 0 := by omega
  have hfz : ((f : Int) == 0) = false := by rw [beq_eq_false_iff_ne]; exact hf0
  go_quiet (fail)
  replace h0H := Lib.hid (h0H.out nq)
  have hb2 := Lib.hid (below_drewN (Below.refl u.heap.size u) nq)
  generalize u.drewN nq = v at *
  have m3H := Lib.hid m3
  have m1H := Lib.hid m1
  clear m1 m2 m3 z0 z1 t0 t1 hfz
  go_wp2_with fail
  go_loopg [8, 9] 9 (fun gk s8 s9 wr => ∃ (k : Nat) (X Y : Int), k + gk = 9 ∧ s8 = .int .i64 X ∧ s9 = .int .i64 Y ∧ Hid (X = (X0 : Int) + (k : Int) * sf ∧ Y = (Y0 : Int) + (k : Int) * sr) ∧ Hid (k = 0 ∨ 0 ≤ sqK f r a sf sr k) ∧ Hid (Inv k wr) ∧ Hid (Chg S u wr))
  case atStart => exact ⟨0, X0, Y0, rfl, by first | rfl | rw [m1H.out], by rw [m3H.out], ⟨by simp, by simp⟩, .inl rfl, h0H, Chg.of_below hb2.out⟩
  case round =>
    clear h0H hb2
    obtain ⟨k, X, Y, hgk, rfl, rfl, hXY, hkz, hI, hC⟩ := hrel
    have hk7 : k ≤ 7 := by
      rcases hkz.out with h1 | h1
      · omega
      · apply Nat.le_of_lt_succ
        apply Nat.lt_of_not_le
        intro h8
        exact hD.out.far h8 h1
    have hb0 := hxy.out k (by omega)
    obtain ⟨hX, hY⟩ := hXY.out
    have hXb : -2000 ≤ X ∧ X ≤ 2000 := by omega
    have hYb : -2000 ≤ Y ∧ Y ≤ 2000 := by omega
    obtain ⟨X1, hX1⟩ : ∃ X1, X + sf = X1 := ⟨_, rfl⟩
    obtain ⟨Y1, hY1⟩ : ∃ Y1, Y + sr = Y1 := ⟨_, rfl⟩
    have hXY1 : Hid (X1 = (X0 : Int) + ((k + 1 : Nat) : Int) * sf ∧ Y1 = (Y0 : Int) + ((k + 1 : Nat) : Int) * sr) := by
      refine ⟨?_, ?_⟩
      · rw [← hX1, hX, Int.natCast_add, Int.add_mul]; simp; omega
      · rw [← hY1, hY, Int.natCast_add, Int.add_mul]; simp; omega
    have hval := Lib.hid (sqK_val (X := X1) (Y := Y1) (f := f) (r := r) (a := a) (sf := sf) (sr := sr) (k := k + 1) (by rw [hX0H.out]; exact hXY1.out.1) (by rw [hY0H.out]; exact hXY1.out.2))
    clear hX hY hb0 hXY hkz
    obtain ⟨F1, hF1⟩ : ∃ F1, (f : Int) - 1 = F1 := ⟨_, rfl⟩
    obtain ⟨R1, hR1⟩ : ∃ R1, (r : Int) - 1 = R1 := ⟨_, rfl⟩
    rw [hF1, hR1] at hval
    have hw1 : Hid (∀ W, Calls Tryd.prog 43 #[.int .i64 X1, .int .i64 0, .int .i64 F1] W fun e w' => e = .returned (.bool (inB X1 0 F1)) ∧ W = w') := fun W => pwithin _ _ _ _
    have hw2 : Hid (∀ W, Calls Tryd.prog 43 #[.int .i64 Y1, .int .i64 0, .int .i64 R1] W fun e w' => e = .returned (.bool (inB Y1 0 R1)) ∧ W = w') := fun W => pwithin _ _ _ _
    obtain ⟨z0, z1, _⟩ := hZ.out.chg hC.out hn0.out
    obtain ⟨t0, t1, _⟩ := hT.out.chg hC.out hn1.out
    have hout : Hid (¬ 0 ≤ sqK f r a sf sr (k + 1) → Fin wr ∧ Chg S w wr) := fun hh => ⟨heH.out k wr hI.out (by omega), (Chg.of_below hb1.out).trans hC.out⟩
    have hF1b : 2 ≤ F1 ∧ F1 ≤ 7 := by omega
    have hR1b : 2 ≤ R1 ∧ R1 ≤ 7 := by omega
    have hX1b : -3000 ≤ X1 ∧ X1 ≤ 3000 := by omega
    have hY1b : -3000 ≤ Y1 ∧ Y1 ≤ 3000 := by omega
    by_cases k1 : 0 ≤ X1 ∧ X1 ≤ F1
    rotate_left
    · rw [inB_no k1] at hw1 hval
      have hfin := Lib.hid (hout.out (by rw [hval.out, Bool.false_and, if_neg Bool.false_ne_true]; decide))
      clear k1 hw2 hout hval
      go_wp2_with fail
      go_at_call 43
      refine (hw1.out _).mono ?_
      rintro e w2 ⟨rfl, rfl⟩
      go_wp2_with fail
      refine bodyPost_ret (results_none rfl _ _ _) rfl ?_
      exact ⟨rfl, hfin.out⟩
    rw [inB_yes k1.1 k1.2] at hw1 hval
    by_cases k2 : 0 ≤ Y1 ∧ Y1 ≤ R1
    rotate_left
    · rw [inB_no k2] at hw2 hval
      have hfin := Lib.hid (hout.out (by rw [hval.out, Bool.and_false, if_neg Bool.false_ne_true]; decide))
      clear k1 k2 hout hval
      go_wp2_with fail
      go_at_call 43
      refine (hw1.out _).mono ?_
      rintro e w2 ⟨rfl, rfl⟩
      go_wp2_with fail
      go_at_call 43
      refine (hw2.out _).mono ?_
      rintro e w2 ⟨rfl, rfl⟩
      go_wp2_with fail
      refine bodyPost_ret (results_none rfl _ _ _) rfl ?_
      exact ⟨rfl, hfin.out⟩
    rw [inB_yes k2.1 k2.2] at hw2 hval
    obtain ⟨M, hM⟩ : ∃ M, Y1 * (f : Int) = M := ⟨_, rfl⟩
    obtain ⟨Z, hZ2⟩ : ∃ Z, X1 + M = Z := ⟨_, rfl⟩
    have hMb : 0 ≤ M ∧ M ≤ 56 := by
      rw [← hM]
      have a1 : 0 ≤ Y1 * (f : Int) := Int.mul_nonneg k2.1 (by omega)
      have a2 : Y1 * (f : Int) ≤ 7 * 8 := Int.mul_le_mul (by omega) (by omega) (by omega) (by omega)
      omega
    have hZb : 0 ≤ Z ∧ Z ≤ 64 := by omega
    have hsq : sqK f r a sf sr (k + 1) = Z := by rw [hval.out, if_pos (by decide), hM, hZ2]
    have hvc := Lib.hid (hvH.out k wr hI.out (by rw [hsq]; exact hZb.1))
    rw [hsq] at hvc
    have hsz : Hid (0 ≤ sqK f r a sf sr (k + 1)) := by show _ ≤ _; rw [hsq]; exact hZb.1
    clear hsq hval hout hI k1 k2
    go_wp2_with fail
    go_at_call 43
    refine (hw1.out _).mono ?_
    rintro e w2 ⟨rfl, rfl⟩
    go_wp2_with fail
    go_at_call 43
    refine (hw2.out _).mono ?_
    rintro e w2 ⟨rfl, rfl⟩
    go_wp2_with fail
    go_at_fn g
    refine hvc.out.mono ?_
    rintro e w3 ⟨hc3, ⟨rfl, hI3⟩ | ⟨rfl, hF3⟩⟩
    · replace hI3 := Lib.hid hI3
      have hC3 := Lib.hid (hC.out.trans hc3)
      clear hc3 hvc
      go_wp2_with fail
      go_roundg (gk - 1)
      case measure => omega
      case rel => exact ⟨k + 1, X1, Y1, by omega, rfl, rfl, hXY1, .inr hsz.out, hI3, hC3⟩
    · have hfin : Hid (Fin w3 ∧ Chg S w w3) := ⟨hF3, ((Chg.of_below hb1.out).trans hC.out).trans hc3⟩
      clear hc3 hF3 hvc
      go_wp2_with fail
      refine bodyPost_ret (results_none rfl _ _ _) rfl ?_
      exact ⟨rfl, hfin.out⟩
end Go.Proofs.YtbcdimklblpdnaaDoor
