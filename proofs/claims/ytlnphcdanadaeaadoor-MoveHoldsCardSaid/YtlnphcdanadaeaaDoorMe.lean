/- Layer 7: the move with a text, the program's: the memory that it makes. -/
import Derived.Test.YtlnphcdanadaeaaDoorMd
import Derived.Test.YtlnphcdanadaeaaDoorTri
namespace Go.Proofs.YtlnphcdanadaeaaDoor
open Go.RowKit
set_option linter.unusedSimpArgs false
set_option linter.unusedVariables false

/-- the boxes of a size and of a move that is not set yet lie in W as they lay -/
structure PR (f r : Int) (w W : World) : Prop where
  mb : MB f r 0 0 0 w W
  fr : ∀ i : Nat, W.frozen? ⟨w.heap.size + 1, i, none⟩ = false
theorem PR.next {f r : Int} {w W W' : World} (h : PR f r w W) (hb : Below W.heap.size W W') : PR f r w W' :=
  ⟨h.mb.next hb, fun i => (hb.frozen (p := ⟨w.heap.size + 1, i, none⟩) h.mb.lt).trans (h.fr i)⟩
theorem PR.drew {f r : Int} {w W : World} (h : PR f r w W) : PR f r w W.drew := ⟨h.mb.drew, h.fr⟩
theorem PR.first (f r : Int) (w : World) (t t2 : TypeId) : PR f r w ((w.alloc (.cells #[.int .i64 f, .int .i64 r] t)).alloc (.cells #[.int .i64 0, .int .i64 0, .int .i8 0] t2)) := by
  refine ⟨MB.first f r 0 0 0 w t t2, fun i => ?_⟩
  have z1 : (w.alloc (.cells #[.int .i64 f, .int .i64 r] t)).heap.size = w.heap.size + 1 := World.size_alloc _ _
  have h2 := heap_alloc_new (w.alloc (.cells #[.int .i64 f, .int .i64 r] t)) (.cells #[.int .i64 0, .int .i64 0, .int .i8 0] t2)
  rw [z1] at h2
  simp only [World.frozen?]
  rw [h2]
  rfl
theorem PR.far {f r : Int} {w W : World} {B i : Nat} {v : Value} (h : PR f r w W) (hB : w.heap.size + 1 < B) : PR f r w (W.setCell ⟨B, i, none⟩ v) := by
  have e : ∀ (n j : Nat), n ≤ w.heap.size + 1 → (W.setCell ⟨B, i, none⟩ v).cell? ⟨n, j, none⟩ = W.cell? ⟨n, j, none⟩ := fun n j hn => World.cell?_setCell_far _ _ _ _ (by show B ≠ n; omega)
  exact ⟨⟨(e _ _ (by omega)).trans h.mb.c0, (e _ _ (by omega)).trans h.mb.c1, (e _ _ (by omega)).trans h.mb.m0, (e _ _ (by omega)).trans h.mb.m1, (e _ _ (by omega)).trans h.mb.m2, by rw [nblk_set]; exact h.mb.lt, h.mb.below.setCell (p := ⟨B, i, none⟩) (by show w.heap.size ≤ B; omega) _⟩, fun j => by rw [World.frozen?_setCell]; exact h.fr j⟩
/-- what lay in the two boxes lies there behind a store elsewhere -/
theorem PR.keep {f r : Int} {w W W' : World} (h : PR f r w W) (hb : Below (w.heap.size + 1 + 1) W W') : PR f r w W' :=
  ⟨⟨(hb.cell (p := ⟨w.heap.size, 0, none⟩) (by show w.heap.size < _; omega)).trans h.mb.c0, (hb.cell (p := ⟨w.heap.size, 1, none⟩) (by show w.heap.size < _; omega)).trans h.mb.c1, (hb.cell (p := ⟨w.heap.size + 1, 0, none⟩) (by show w.heap.size + 1 < _; omega)).trans h.mb.m0, (hb.cell (p := ⟨w.heap.size + 1, 1, none⟩) (by show w.heap.size + 1 < _; omega)).trans h.mb.m1, (hb.cell (p := ⟨w.heap.size + 1, 2, none⟩) (by show w.heap.size + 1 < _; omega)).trans h.mb.m2, Nat.lt_of_lt_of_le h.mb.lt hb.size, h.mb.below.trans (hb.mono (by omega))⟩, fun i => (hb.frozen (p := ⟨w.heap.size + 1, i, none⟩) (by show w.heap.size + 1 < _; omega)).trans (h.fr i)⟩
/-- the move that is read lies in block B -/
structure PM (f r x y p : Int) (B : Nat) (w W : World) : Prop where
  pr : PR f r w W
  k0 : W.cell? ⟨B, 0, none⟩ = some (.int .i64 x)
  k1 : W.cell? ⟨B, 1, none⟩ = some (.int .i64 y)
  k2 : W.cell? ⟨B, 2, none⟩ = some (.int .i8 p)
  fk : ∀ i : Nat, W.frozen? ⟨B, i, none⟩ = false
  lt : B < W.heap.size
  gt : w.heap.size + 1 < B
theorem PM.of {f r : Int} {w W : World} {B : Nat} {x y p : Int} (h : PR f r w W) (ht : Tri W B (.int .i64 x) (.int .i64 y) (.int .i8 p)) (hB : w.heap.size + 1 < B) : PM f r x y p B w W := ⟨h, ht.c0, ht.c1, ht.c2, ht.fr, ht.lt, hB⟩
theorem PM.next {f r x y p : Int} {B : Nat} {w W W' : World} (h : PM f r x y p B w W) (hb : Below W.heap.size W W') : PM f r x y p B w W' :=
  ⟨h.pr.next hb, (hb.cell (p := ⟨B, 0, none⟩) h.lt).trans h.k0, (hb.cell (p := ⟨B, 1, none⟩) h.lt).trans h.k1, (hb.cell (p := ⟨B, 2, none⟩) h.lt).trans h.k2, fun i => (hb.frozen (p := ⟨B, i, none⟩) h.lt).trans (h.fk i), Nat.lt_of_lt_of_le h.lt hb.size, h.gt⟩
theorem PM.drew {f r x y p : Int} {B : Nat} {w W : World} (h : PM f r x y p B w W) : PM f r x y p B w W.drew := ⟨h.pr.drew, h.k0, h.k1, h.k2, h.fk, h.lt, h.gt⟩
theorem PR.drewN {f r : Int} {w W : World} (h : PR f r w W) (n : Nat) : PR f r w (W.drewN n) := ⟨h.mb.drewN n, h.fr⟩
theorem PM.drewN {f r x y p : Int} {B : Nat} {w W : World} (h : PM f r x y p B w W) (n : Nat) : PM f r x y p B w (W.drewN n) := ⟨h.pr.drewN n, h.k0, h.k1, h.k2, h.fk, h.lt, h.gt⟩
theorem PM.first {f r : Int} {w W : World} (h : PR f r w W) (t : TypeId) : PM f r 0 0 0 W.heap.size w (W.alloc (.cells #[.int .i64 0, .int .i64 0, .int .i8 0] t)) := by
  have h2 := heap_alloc_new W (.cells #[.int .i64 0, .int .i64 0, .int .i8 0] t)
  refine ⟨h.next ((Below.refl _ _).alloc (Nat.le_refl _) _), ?_, ?_, ?_, fun i => ?_, by rw [World.size_alloc]; omega, h.mb.lt⟩
  · rw [cell_of_row _ _ _ _ _ _ h2]; rfl
  · rw [cell_of_row _ _ _ _ _ _ h2]; rfl
  · rw [cell_of_row _ _ _ _ _ _ h2]; rfl
  · simp only [World.frozen?]
    rw [h2]
    rfl
theorem PM.set0 {f r x y p : Int} {B : Nat} {w W : World} (h : PM f r x y p B w W) (v : Int) : PM f r v y p B w (W.setCell ⟨B, 0, none⟩ (.int .i64 v)) :=
  ⟨h.pr.far h.gt, World.cell?_setCell_same' _ _ _ (by rw [h.k0]; rfl), (cell_off _ _ _ _ _ (by decide)).trans h.k1, (cell_off _ _ _ _ _ (by decide)).trans h.k2, fun i => by rw [World.frozen?_setCell]; exact h.fk i, by rw [nblk_set]; exact h.lt, h.gt⟩
theorem PM.set1 {f r x y p : Int} {B : Nat} {w W : World} (h : PM f r x y p B w W) (v : Int) : PM f r x v p B w (W.setCell ⟨B, 1, none⟩ (.int .i64 v)) :=
  ⟨h.pr.far h.gt, (cell_off _ _ _ _ _ (by decide)).trans h.k0, World.cell?_setCell_same' _ _ _ (by rw [h.k1]; rfl), (cell_off _ _ _ _ _ (by decide)).trans h.k2, fun i => by rw [World.frozen?_setCell]; exact h.fk i, by rw [nblk_set]; exact h.lt, h.gt⟩
theorem PM.set2 {f r x y p : Int} {B : Nat} {w W : World} (h : PM f r x y p B w W) (v : Int) : PM f r x y v B w (W.setCell ⟨B, 2, none⟩ (.int .i8 v)) :=
  ⟨h.pr.far h.gt, (cell_off _ _ _ _ _ (by decide)).trans h.k0, (cell_off _ _ _ _ _ (by decide)).trans h.k1, World.cell?_setCell_same' _ _ _ (by rw [h.k2]; rfl), fun i => by rw [World.frozen?_setCell]; exact h.fk i, by rw [nblk_set]; exact h.lt, h.gt⟩

theorem pmp_arg (f r : Int) (s : ByteArray) (w : World) (hs : szB f r = false) : Calls Tryd.prog 13 #[.agg #[.int .i64 f, .int .i64 r], .string s] w fun e w' => e = .returned (.tuple #[.agg #[.int .i64 0, .int .i64 0, .int .i8 0], .int .i64 2]) ∧ Below w.heap.size w w' := by
  have hK := Lib.hid (PR.first f r w 23 27)
  have c0 := hK.out.mb.c0
  have c1 := hK.out.mb.c1
  go_enter Tryd.func13, Tryd.ntmps13
  go_wp2_with (go_at_call 28; refine (pvsize _ _ _).mono ?_; rintro e w' ⟨rfl, hbw⟩; rw [hs]; replace hK := Lib.hid (hK.out.next hbw); have m0 := hK.out.mb.m0; have m1 := hK.out.mb.m1; have m2 := hK.out.mb.m2; have f0 := hK.out.fr 0; have f1 := hK.out.fr 1; have f2 := hK.out.fr 2; clear hbw)
  obtain ⟨s0, s1, s2⟩ := set3 m0 m1 m2 (.int .i64 0) (.int .i64 0) (.int .i8 0)
  exact bodyPost_ret (v := .tuple #[.agg #[.int .i64 0, .int .i64 0, .int .i8 0], .int .i64 2]) (by simp [results, Tryd.results13, go_sem, s0, s1, s2]) rfl ⟨rfl, below_set3 hK.out.mb.below (by omega) _ _ _⟩
theorem pmp_len (f r : Int) (s : ByteArray) (w : World) (hs : szB f r = true) (h4 : s.size ≠ 4) (h5 : s.size ≠ 5) (hm : s.size ≤ maxLen) : Calls Tryd.prog 13 #[.agg #[.int .i64 f, .int .i64 r], .string s] w fun e w' => e = .returned (.tuple #[.agg #[.int .i64 0, .int .i64 0, .int .i8 0], .int .i64 6]) ∧ Below w.heap.size w w' := by
  unfold maxLen at hm
  have hK := Lib.hid (PR.first f r w 23 27)
  have c0 := hK.out.mb.c0
  have c1 := hK.out.mb.c1
  have g4 : ((s.size : Int) != 4) = true := by rw [bne_iff_ne]; omega
  have g5 : ((s.size : Int) != 5) = true := by rw [bne_iff_ne]; omega
  go_enter Tryd.func13, Tryd.ntmps13
  go_wp2_with (go_at_call 28; refine (pvsize _ _ _).mono ?_; rintro e w' ⟨rfl, hbw⟩; rw [hs]; replace hK := Lib.hid (hK.out.next hbw); have m0 := hK.out.mb.m0; have m1 := hK.out.mb.m1; have m2 := hK.out.mb.m2; have f0 := hK.out.fr 0; have f1 := hK.out.fr 1; have f2 := hK.out.fr 2; clear hbw)
  obtain ⟨s0, s1, s2⟩ := set3 m0 m1 m2 (.int .i64 0) (.int .i64 0) (.int .i8 0)
  exact bodyPost_ret (v := .tuple #[.agg #[.int .i64 0, .int .i64 0, .int .i8 0], .int .i64 6]) (by simp [results, Tryd.results13, go_sem, s0, s1, s2]) rfl ⟨rfl, below_set3 hK.out.mb.below (by omega) _ _ _⟩
end Go.Proofs.YtlnphcdanadaeaaDoor
