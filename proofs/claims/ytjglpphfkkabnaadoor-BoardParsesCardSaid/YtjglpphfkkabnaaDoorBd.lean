/- Layer 3: copies; a board without pieces; a board with a piece put; equal boards: the program's. -/
import Derived.Test.YtjglpphfkkabnaaDoorBc
import Derived.Lib.SliceRun
namespace Go.Proofs.YtjglpphfkkabnaaDoor
open Go.RowKit
set_option linter.unusedSimpArgs false
set_option linter.unusedVariables false

/-- a board that the call has made: its pieces lie in a row of its own -/
def NewB (f r : Int) (l : List Int) (w : World) (e : Ending) (w' : World) : Prop := ∃ (A : Option Addr) (c : Nat), e = .returned (bV f r A l.length c) ∧ O1 qEnc 1 w.heap.size 28 w w' A c l
/-- the same, with a number -/
def NewBE (f r : Int) (l : List Int) (n : Int) (w : World) (e : Ending) (w' : World) : Prop := ∃ (A : Option Addr) (c : Nat), e = .returned (.tuple #[bV f r A l.length c, .int .i64 n]) ∧ O1 qEnc 1 w.heap.size 28 w w' A c l
theorem O1.nil {α : Type} {f : α → List Value} {size base : Nat} {e : TypeId} {w0 w : World} (hb : Below base w0 w) (hs : base ≤ w.heap.size) : O1 f size base e w0 w none 0 ([] : List α) := ⟨owns_nil, hb, hs⟩
set_option maxRecDepth 100000 in
theorem pclone (A : Option Addr) (c : Nat) (l : List Int) (w : World) (hA : PcsAt w w.heap.size A l) (hl : l.length ≤ 100000) :
    Calls Tryd.prog 55 #[.slice A l.length c] w fun e w' => (∃ (A' : Option Addr) (c' : Nat), e = .returned (.slice A' l.length c') ∧ O1 qEnc 1 w.heap.size 28 w w' A' c' l) := by
  have hAH := Lib.hid hA
  have hnl : ∀ (a : Option Addr) (n c : Nat) (w : World), (binOp BinOp.eql 24 (.slice a n c) (.slice none 0 0)).run Tryd.prog w = .ok (.bool a.isNone) w := fun a n c w => Lib.run_eql_slice_nil w 24 28 a n c 0 0 Tryd.underlying24
  clear hA
  rcases A with _ | a
  · obtain rfl : l = [] := by
      rcases l with _ | ⟨x, l⟩
      · rfl
      · obtain ⟨b, off, e, _⟩ := hAH.out (by simp)
        cases e
    go_enter Tryd.func55, Tryd.ntmps55
    go_wp2_with fail
    go_ret
    exact ⟨none, 0, rfl, O1.nil (Below.refl _ _) (Nat.le_refl _)⟩
  · go_enter Tryd.func55, Tryd.ntmps55
    have hO : Hid (O1 qEnc 1 w.heap.size 28 w (w.alloc (.cells #[] 28)) (some ⟨w.heap.size, 0, none⟩) 0 []) :=
      ⟨World.ownsRow_made w #[] 0 (Nat.le_refl _) (by decide) rfl, (Below.refl _ _).alloc (Nat.le_refl _) _, by simp⟩
    have hA2 : Hid (PcsAt (w.alloc (.cells #[] 28)) (w.alloc (.cells #[] 28)).heap.size (some a) l) := (hAH.out.below (Nat.le_refl _) ((Below.refl _ _).alloc (Nat.le_refl _) _)).more (by simp)
    go_wp2_with (at_builtin; refine wpList_append_recs pieceRow qEnc_len qEnc_one rfl _ _ rfl w.heap.size (some ⟨w.heap.size, 0, none⟩) 0 [] rfl hO.out.own (some a) c l rfl hA2.out (by simp only [List.length_nil]; omega) hO.out.size ?_; intro A2 c2 w2 hown hg _; rw [List.nil_append] at hown ⊢; have hO' := Lib.hid (hO.out.app hown hg); clear hown hg)
    go_ret
    exact ⟨A2, c2, rfl, hO'.out⟩
/-- three cells, their block new: behind a block laid -/
theorem tri_two (w : World) (o : Obj) (x y z : Value) (t : TypeId) : Tri ((w.alloc o).alloc (.cells #[x, y, z] t)) (w.heap.size + 1) x y z := tri_new _ _ _ _ _ _ (by simp)
theorem KB.tri {f r : Int} {A : Option Addr} {n c : Nat} {w W : World} (h : KB f r A n c w W) : W.cell? ⟨w.heap.size, 0, none⟩ = some (.int .i64 f) ∧ W.cell? ⟨w.heap.size, 1, none⟩ = some (.int .i64 r) ∧ W.cell? ⟨w.heap.size, 2, none⟩ = some (.slice A n c) := ⟨h.c0, h.c1, h.c2⟩
theorem KB.set3 {f r : Int} {A : Option Addr} {n c : Nat} {w W : World} (h : KB f r A n c w W) {B : Nat} (hB : w.heap.size < B) (x y z : Value) : KB f r A n c w (((W.setCell ⟨B, 0, none⟩ x).setCell ⟨B, 1, none⟩ y).setCell ⟨B, 2, none⟩ z) := by
  have e : ∀ i, (((W.setCell ⟨B, 0, none⟩ x).setCell ⟨B, 1, none⟩ y).setCell ⟨B, 2, none⟩ z).cell? ⟨w.heap.size, i, none⟩ = W.cell? ⟨w.heap.size, i, none⟩ := fun i => by
    rw [World.cell?_setCell_other, World.cell?_setCell_other, World.cell?_setCell_other]
    all_goals (intro e; simp only [Addr.mk.injEq] at e; omega)
  exact ⟨(e 0).trans h.c0, (e 1).trans h.c1, (e 2).trans h.c2, by rw [nblk_set, nblk_set, nblk_set]; exact h.lt, below_set3 h.below (by omega) x y z⟩
section
variable {α : Type} {f : α → List Value} {size base b' : Nat} {e : TypeId} {w00 w0 w : World} {A : Option Addr} {c : Nat} {l : List α}
theorem own_lower {v : Value} {n : Nat} {xs : List Value} (h : w.ownsRow base e size v n xs) (hb : b' ≤ base) : w.ownsRow b' e size v n xs := by
  obtain ⟨h1, h2⟩ := h
  refine ⟨h1, ?_⟩
  rcases h2 with h2 | ⟨g, cap, cur, hv, hg, r⟩
  · exact .inl h2
  · exact .inr ⟨g, cap, cur, hv, by omega, r⟩
theorem O1.lower (h : O1 f size base e w0 w A c l) (hb : b' ≤ base) (hB : Below b' w00 w0) : O1 f size b' e w00 w A c l := ⟨own_lower h.own hb, hB.trans (h.below.mono hb), by have := h.size; omega⟩
theorem O1.set3 (h : O1 f size base e w0 w A c l) {B : Nat} (hB : B < base) (hb : b' ≤ B) (h0 : Below b' w00 w0) (x y z : Value) : O1 f size b' e w00 (((w.setCell ⟨B, 0, none⟩ x).setCell ⟨B, 1, none⟩ y).setCell ⟨B, 2, none⟩ z) A c l := by
  have hne : (Value.slice A l.length c).ownBlock ≠ some B := fun e => by have := (World.ownsRow.lt h.own B e).1; omega
  refine ⟨own_lower (ownsRow_setCell_other (ownsRow_setCell_other (ownsRow_setCell_other h.own hne x) hne y) hne z) (by omega), below_set3 (h0.trans (h.below.mono (by omega))) hb x y z, ?_⟩
  rw [nblk_set, nblk_set, nblk_set]
  have := h.size
  omega
theorem O1.drew0 (h : O1 f size base e w0.drew w A c l) : O1 f size base e w0 w A c l := ⟨h.own, ⟨h.below.os, h.below.tape, h.below.output, h.below.size, h.below.block⟩, h.size⟩
end
set_option maxRecDepth 100000 in
set_option maxHeartbeats 1000000 in
theorem pcopy (f r : Int) (A : Option Addr) (c : Nat) (l : List Int) (w : World) (hA : PcsAt w w.heap.size A l) (hl : l.length ≤ 100000) :
    Calls Tryd.prog 33 #[bV f r A l.length c] w (NewB f r l w) := by
  have hAW : Hid (∀ W, Below w.heap.size w W → PcsAt W W.heap.size A l) := fun W hb => (hA.below (Nat.le_refl _) hb).more hb.size
  have hK := Lib.hid ((KB.first f r A l.length c w 26).alloc (.cells #[.int .i64 0, .int .i64 0, .slice none 0 0] 26))
  have hT := Lib.hid (tri_two w (.cells #[.int .i64 f, .int .i64 r, .slice A l.length c] 26) (.int .i64 0) (.int .i64 0) (.slice none 0 0) 26)
  clear hA
  go_enter Tryd.func33, Tryd.ntmps33
  go_upto_region 1 with fail
  generalize (w.alloc (.cells #[.int .i64 f, .int .i64 r, .slice A l.length c] 26)).alloc (.cells #[.int .i64 0, .int .i64 0, .slice none 0 0] 26) = w1 at *
  have hbb := Lib.hid hK.out.below
  have hz := hT.out.lt
  have c0 := hK.out.c0
  have c1 := hK.out.c1
  have c2 := hK.out.c2
  have m0 := hT.out.c0
  have m1 := hT.out.c1
  have m2 := hT.out.c2
  have g0 := hT.out.fr 0
  have g1 := hT.out.fr 1
  have g2 := hT.out.fr 2
  go_region_held3 (fun w' => w'.cell? ⟨w.heap.size, 0, none⟩ = some (.int .i64 f) ∧ w'.cell? ⟨w.heap.size, 1, none⟩ = some (.int .i64 r) ∧ w'.cell? ⟨w.heap.size, 2, none⟩ = some (.slice A l.length c)) (first | exact hK.out.tri | exact (hK.out.set3 (by omega) _ _ _).tri)
    (first | (go_at_call 55; refine (pclone _ _ _ _ (hAW.out _ (by first | exact hK.out.below | exact hK.out.drew.below)) hl).mono ?_; rintro e w2 ⟨A2, c2', rfl, hO⟩; replace hO : Hid (O1 qEnc 1 w1.heap.size 28 w1 w2 A2 c2' l) := (by first | exact hO | exact hO.drew0); have hb2 := hO.out.below; replace hK : Hid (KB f r A l.length c w w2) := hK.out.next hb2; replace hT : Hid (Tri w2 (w.heap.size + 1) (.int .i64 0) (.int .i64 0) (.slice none 0 0)) := hT.out.next hb2; clear hb2; replace m0 := hT.out.c0; replace m1 := hT.out.c1; replace m2 := hT.out.c2; replace g0 := hT.out.fr 0; replace g1 := hT.out.fr 1; replace g2 := hT.out.fr 2))
  all_goals
    go_wp2
    obtain ⟨s0, s1, s2⟩ := set3 m0 m1 m2 (.int .i64 f) (.int .i64 r) (.slice A2 l.length c2')
    exact bodyPost_ret (v := bV f r A2 l.length c2') (by simp [results, Tryd.results33, go_sem, s0, s1, s2]) rfl ⟨A2, c2', rfl, hO.out.set3 hz (by omega) hbb.out _ _ _⟩
set_option maxRecDepth 100000 in
set_option maxHeartbeats 1000000 in
theorem rcopy (f r : Int) (A : Option Addr) (c : Nat) (l : List Int) (w : World) (hA : PcsAt w w.heap.size A l) (hl : l.length ≤ 100000) :
    Calls Tryd.prog 11 #[bV f r A l.length c] w (NewB f r l w) := by
  have hAW : Hid (∀ W, Below w.heap.size w W → PcsAt W W.heap.size A l) := fun W hb => (hA.below (Nat.le_refl _) hb).more hb.size
  have hK := Lib.hid ((KB.first f r A l.length c w 26).alloc (.cells #[.int .i64 0, .int .i64 0, .slice none 0 0] 26))
  have hT := Lib.hid (tri_two w (.cells #[.int .i64 f, .int .i64 r, .slice A l.length c] 26) (.int .i64 0) (.int .i64 0) (.slice none 0 0) 26)
  clear hA
  go_enter Tryd.func11, Tryd.ntmps11
  go_upto_region 1 with fail
  generalize (w.alloc (.cells #[.int .i64 f, .int .i64 r, .slice A l.length c] 26)).alloc (.cells #[.int .i64 0, .int .i64 0, .slice none 0 0] 26) = w1 at *
  have hbb := Lib.hid hK.out.below
  have hz := hT.out.lt
  have c0 := hK.out.c0
  have c1 := hK.out.c1
  have c2 := hK.out.c2
  have m0 := hT.out.c0
  have m1 := hT.out.c1
  have m2 := hT.out.c2
  have g0 := hT.out.fr 0
  have g1 := hT.out.fr 1
  have g2 := hT.out.fr 2
  go_region_held3 (fun w' => w'.cell? ⟨w.heap.size, 0, none⟩ = some (.int .i64 f) ∧ w'.cell? ⟨w.heap.size, 1, none⟩ = some (.int .i64 r) ∧ w'.cell? ⟨w.heap.size, 2, none⟩ = some (.slice A l.length c)) (first | exact hK.out.tri | exact (hK.out.set3 (by omega) _ _ _).tri)
    (first | (refine step_append_recs pieceRow qEnc_len qEnc_one (by rfl) _ _ (by rfl) w1.heap.size none 0 [] (by rfl) owns_nil A c l (by rfl) (hAW.out _ (by first | exact hK.out.below | exact hK.out.drew.below)) (by simp only [List.length_nil]; omega) (by first | exact Nat.le_refl _ | simp) ?_; intro A2 c2' w2 hown hg hat; rw [List.nil_append] at hown ⊢; have hO : Hid (O1 qEnc 1 w1.heap.size 28 w1 w2 A2 c2' l) := (by first | exact (O1.nil (Below.refl _ _) (Nat.le_refl _)).app hown hg | exact (O1.nil (Below.refl _ _).drew (Nat.le_refl _)).app hown hg); clear hown hg hat; have hb2 := hO.out.below; replace hK : Hid (KB f r A l.length c w w2) := hK.out.next hb2; replace hT : Hid (Tri w2 (w.heap.size + 1) (.int .i64 0) (.int .i64 0) (.slice none 0 0)) := hT.out.next hb2; clear hb2; replace m0 := hT.out.c0; replace m1 := hT.out.c1; replace m2 := hT.out.c2; replace g0 := hT.out.fr 0; replace g1 := hT.out.fr 1; replace g2 := hT.out.fr 2))
  all_goals
    go_wp2
    obtain ⟨s0, s1, s2⟩ := set3 m0 m1 m2 (.int .i64 f) (.int .i64 r) (.slice A2 l.length c2')
    exact bodyPost_ret (v := bV f r A2 l.length c2') (by simp [results, Tryd.results11, go_sem, s0, s1, s2]) rfl ⟨A2, c2', rfl, hO.out.set3 hz (by omega) hbb.out _ _ _⟩
end Go.Proofs.YtjglpphfkkabnaaDoor
