/- Layer 3: boards without pieces; equal boards; a small board: the program's and the reference's. -/
import Derived.Test.YtjglpphfkkabnaaDoorBe
namespace Go.Proofs.YtjglpphfkkabnaaDoor
open Go.RowKit
set_option linter.unusedSimpArgs false
set_option linter.unusedVariables false

theorem BK.both {f r : Int} {w W : World} (h : BK f r w W) : W.cell? ⟨w.heap.size, 0, none⟩ = some (.int .i64 f) ∧ W.cell? ⟨w.heap.size, 1, none⟩ = some (.int .i64 r) := ⟨h.c0, h.c1⟩
theorem BK.set3 {f r : Int} {w W : World} (h : BK f r w W) {B : Nat} (hB : w.heap.size < B) (x y z : Value) : BK f r w (((W.setCell ⟨B, 0, none⟩ x).setCell ⟨B, 1, none⟩ y).setCell ⟨B, 2, none⟩ z) := by
  have e : ∀ i, (((W.setCell ⟨B, 0, none⟩ x).setCell ⟨B, 1, none⟩ y).setCell ⟨B, 2, none⟩ z).cell? ⟨w.heap.size, i, none⟩ = W.cell? ⟨w.heap.size, i, none⟩ := fun i => by
    rw [World.cell?_setCell_other, World.cell?_setCell_other, World.cell?_setCell_other]
    all_goals (intro e; simp only [Addr.mk.injEq] at e; omega)
  exact ⟨(e 0).trans h.c0, (e 1).trans h.c1, by rw [nblk_set, nblk_set, nblk_set]; exact h.lt, below_set3 h.below (by omega) x y z⟩
theorem size_nat {f r : Int} (h : szB f r = true) : ∃ n : Nat, f * r = (n : Int) ∧ 9 ≤ n ∧ n ≤ 64 ∧ (f * r).toNat = n := by
  obtain ⟨f0, f1, r0, r1⟩ := szB_out h
  obtain ⟨q0, q1⟩ := mul_bd f0 f1 r0 r1
  exact ⟨(f * r).toNat, by omega, by omega, by omega, rfl⟩
theorem O1.of_set3 {w0 w : World} {b' : Nat} (hb : Below b' w0 w) {B : Nat} (hB : b' ≤ B) (hs : b' ≤ w.heap.size) (n : Nat) (hn : n ≤ maxLen) (e : TypeId) (x y z : Value) :
    O1 qEnc 1 b' e w0 ((((w.setCell ⟨B, 0, none⟩ x).setCell ⟨B, 1, none⟩ y).setCell ⟨B, 2, none⟩ z).alloc (.cells (madeCells #[.int .i8 0] n) e)) (some ⟨w.heap.size, 0, none⟩) n (List.replicate n 0) := by
  have h := O1.made (((w.setCell ⟨B, 0, none⟩ x).setCell ⟨B, 1, none⟩ y).setCell ⟨B, 2, none⟩ z) n hn e
  rw [nblk_set, nblk_set, nblk_set] at h
  exact h.lower hs (below_set3 hb hB x y z)
theorem wpList_make_q {ops : Array Oper} {rest : List Oper} {o : Oper} {a : Act} {w : World} {Q : Exit → Act → World → Prop} (hgd : o.guard = none) (x : Operand) (n : Nat) (hn : n ≤ 1000)
    (ho : o.op = .makeSlice 24 x x) (hx : a.eval x = .int .i64 (n : Int))
    (h : ∀ w', O1 qEnc 1 w.heap.size 28 w w' (some ⟨w.heap.size, 0, none⟩) n (List.replicate n 0) → wpList Tryd.prog ops Q rest (a.put o.dst (.slice (some ⟨w.heap.size, 0, none⟩) n n)) w') :
    wpList Tryd.prog ops Q (o :: rest) a w := by
  refine wpList_plain hgd fun K hK => ?_
  have hr := run_make_q w n hn
  unfold Oper.wp execOp
  simp only [ho, Sem.run_bind, Sem.run_pure, Result.andThen_ok, hx, hr]
  exact hK _ _ (h _ (O1.made w n (by unfold maxLen; omega) 28))
set_option maxRecDepth 100000 in
set_option maxHeartbeats 1000000 in
theorem pempty_yes (f r : Int) (w : World) (h : szB f r = true) (n : Nat) (hn : f * r = (n : Int)) (hn9 : n ≤ 64) :
    Calls Tryd.prog 12 #[.agg #[.int .i64 f, .int .i64 r]] w (NewBE f r (List.replicate n 0) 0 w) := by
  have hK := Lib.hid ((BK.first f r w 23).next ((Below.refl _ _).alloc (Nat.le_refl _) (.cells #[.int .i64 0, .int .i64 0, .slice none 0 0] 26)))
  have hT := Lib.hid (tri_two w (.cells #[.int .i64 f, .int .i64 r] 23) (.int .i64 0) (.int .i64 0) (.slice none 0 0) 26)
  have c0 := hK.out.c0
  have c1 := hK.out.c1
  replace hn := Lib.hid hn
  go_enter Tryd.func12, Tryd.ntmps12
  go_upto_region 4 with (go_at_call 36; refine (pcount_yes _ _ _ h).mono ?_; rintro e w1 ⟨rfl, hbw⟩; rw [hn.out]; replace hK := Lib.hid (hK.out.next hbw); replace hT := Lib.hid (hT.out.next hbw); replace c0 := hK.out.c0; replace c1 := hK.out.c1; clear hbw)
  have hmk := fun W => run_make_q W n (by omega)
  have hbb := Lib.hid hK.out.below
  have hz := hT.out.lt
  have hT0 := Lib.hid (hT.out.alloc (.cells (madeCells #[.int .i8 0] n) 28))
  have hK0 := Lib.hid (hK.out.next ((Below.refl _ _).alloc (Nat.le_refl _) (.cells (madeCells #[.int .i8 0] n) 28)))
  have m0 := hT0.out.c0
  have m1 := hT0.out.c1
  have m2 := hT0.out.c2
  have g0 := hT0.out.fr 0
  have g1 := hT0.out.fr 1
  have g2 := hT0.out.fr 2
  have e0 := hK0.out.c0
  have e1 := hK0.out.c1
  have p0 := hT.out.c0
  have p1 := hT.out.c1
  have p2 := hT.out.c2
  have r0 := hT.out.fr 0
  have r1 := hT.out.fr 1
  have r2 := hT.out.fr 2
  go_region
  all_goals
    go_wp2
    have hTf := ((hT.out.set (.int .i64 f) (.int .i64 r) (.slice (some ⟨w1.heap.size, 0, none⟩) n n)).alloc (.cells (madeCells #[.int .i8 0] n) 28))
    have s0 := hTf.c0
    have s1 := hTf.c1
    have s2 := hTf.c2
    have hOf := O1.of_set3 (w := w1) hbb.out (B := w.heap.size + 1) (by omega) hK.out.below.size n (by unfold maxLen; omega) 28 (.int .i64 f) (.int .i64 r) (.slice (some ⟨w1.heap.size, 0, none⟩) n n)
    exact bodyPost_ret (v := .tuple #[bV f r (some ⟨w1.heap.size, 0, none⟩) n n, .int .i64 0]) (by simp [results, Tryd.results12, go_sem, s0, s1, s2]) rfl ⟨some ⟨w1.heap.size, 0, none⟩, n, by rw [List.length_replicate], hOf.drew⟩
set_option maxRecDepth 100000 in
set_option maxHeartbeats 1000000 in
theorem rempty (f r : Int) (w : World) (h : szB f r = true) (n : Nat) (hn : f * r = (n : Int)) (hn9 : n ≤ 64) :
    Calls Tryd.prog 16 #[.agg #[.int .i64 f, .int .i64 r]] w (NewB f r (List.replicate n 0) w) := by
  have hK := Lib.hid ((BK.first f r w 23).next ((Below.refl _ _).alloc (Nat.le_refl _) (.cells #[.int .i64 0, .int .i64 0, .slice none 0 0] 26)))
  have hT := Lib.hid (tri_two w (.cells #[.int .i64 f, .int .i64 r] 23) (.int .i64 0) (.int .i64 0) (.slice none 0 0) 26)
  have c0 := hK.out.c0
  have c1 := hK.out.c1
  replace hn := Lib.hid hn
  go_enter Tryd.func16, Tryd.ntmps16
  go_upto_region 1 with fail
  generalize (w.alloc (.cells #[.int .i64 f, .int .i64 r] 23)).alloc (.cells #[.int .i64 0, .int .i64 0, .slice none 0 0] 26) = w1 at *
  have hw1 : IntKind.i64.wrap (f * r) = (n : Int) := by rw [hn.out]; exact IntWalk.i64_in _ (by omega)
  have hw2 : wrap64 (f * r) = (n : Int) := by rw [hn.out]; exact IntWalk.wrap64_in _ (by omega)
  have hmk := fun W => run_make_q W n (by omega)
  have hbb := Lib.hid hK.out.below
  have hz := hT.out.lt
  have hT0 := Lib.hid (hT.out.alloc (.cells (madeCells #[.int .i8 0] n) 28))
  have hK0 := Lib.hid (hK.out.next ((Below.refl _ _).alloc (Nat.le_refl _) (.cells (madeCells #[.int .i8 0] n) 28)))
  have m0 := hT0.out.c0
  have m1 := hT0.out.c1
  have m2 := hT0.out.c2
  have g0 := hT0.out.fr 0
  have g1 := hT0.out.fr 1
  have g2 := hT0.out.fr 2
  have e0 := hK0.out.c0
  have e1 := hK0.out.c1
  have p0 := hT.out.c0
  have p1 := hT.out.c1
  have p2 := hT.out.c2
  have r0 := hT.out.fr 0
  have r1 := hT.out.fr 1
  have r2 := hT.out.fr 2
  go_region
  all_goals
    go_wp2
    have hTf := ((hT.out.set (.int .i64 f) (.int .i64 r) (.slice (some ⟨w1.heap.size, 0, none⟩) n n)).alloc (.cells (madeCells #[.int .i8 0] n) 28))
    have s0 := hTf.c0
    have s1 := hTf.c1
    have s2 := hTf.c2
    have hOf := O1.of_set3 (w := w1) hbb.out (B := w.heap.size + 1) (by omega) hK.out.below.size n (by unfold maxLen; omega) 28 (.int .i64 f) (.int .i64 r) (.slice (some ⟨w1.heap.size, 0, none⟩) n n)
    exact bodyPost_ret (v := bV f r (some ⟨w1.heap.size, 0, none⟩) n n) (by simp [results, Tryd.results16, go_sem, s0, s1, s2]) rfl ⟨some ⟨w1.heap.size, 0, none⟩, n, by rw [List.length_replicate], hOf.drew⟩
set_option maxRecDepth 100000 in
theorem pempty_no (f r : Int) (w : World) (h : szB f r = false) : Calls Tryd.prog 12 #[.agg #[.int .i64 f, .int .i64 r]] w (NewBE 0 0 [] 2 w) := by
  have hK := Lib.hid ((BK.first f r w 23).next ((Below.refl _ _).alloc (Nat.le_refl _) (.cells #[.int .i64 0, .int .i64 0, .slice none 0 0] 26)))
  have hT := Lib.hid (tri_two w (.cells #[.int .i64 f, .int .i64 r] 23) (.int .i64 0) (.int .i64 0) (.slice none 0 0) 26)
  have c0 := hK.out.c0
  have c1 := hK.out.c1
  go_enter Tryd.func12, Tryd.ntmps12
  go_wp2_with (go_at_call 36; refine (pcount_no _ _ _ h).mono ?_; rintro e w1 ⟨rfl, hbw⟩; replace hK := Lib.hid (hK.out.next hbw); replace hT := Lib.hid (hT.out.next hbw); have m0 := hT.out.c0; have m1 := hT.out.c1; have m2 := hT.out.c2; have n0 := hT.out.fr 0; have n1 := hT.out.fr 1; have n2 := hT.out.fr 2; clear hbw)
  obtain ⟨s0, s1, s2⟩ := set3 m0 m1 m2 (.int .i64 0) (.int .i64 0) (.slice none 0 0)
  exact bodyPost_ret (v := .tuple #[bV 0 0 none 0 0, .int .i64 2]) (by simp [results, Tryd.results12, go_sem, s0, s1, s2]) rfl ⟨none, 0, rfl, O1.nil (below_set3 hK.out.below (by omega) _ _ _) (by rw [nblk_set, nblk_set, nblk_set]; exact hK.out.below.size)⟩
end Go.Proofs.YtjglpphfkkabnaaDoor
