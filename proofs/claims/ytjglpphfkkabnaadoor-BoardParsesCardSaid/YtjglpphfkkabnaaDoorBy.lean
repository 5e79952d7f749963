/- Layer 3: the ranks of a text as the reference parts them; what its Parse holds. Printed by gen_by.py. -/
import Derived.Test.YtjglpphfkkabnaaDoorBx
import Derived.StillTailTactics
namespace Go.Proofs.YtjglpphfkkabnaaDoor
open Go.RowKit
set_option linter.unusedSimpArgs false
set_option linter.unusedVariables false

/-- one more byte of a text: a blank begins a new word -/
def nextS (ws : List ByteArray) (c : UInt8) : List ByteArray := if c = 47 then ws ++ [⟨#[]⟩] else ws.dropLast ++ [ws.getLastD ⟨#[]⟩ ++ ⟨#[c]⟩]
/-- the words of bytes -/
def wlk (l : List UInt8) : List ByteArray := l.foldl nextS [⟨#[]⟩]
def wlS (s : ByteArray) (k : Nat) : List ByteArray := wlk (s.data.toList.take k)
theorem wlS_zero (s : ByteArray) : wlS s 0 = [⟨#[]⟩] := by unfold wlS; rw [List.take_zero]; rfl
theorem wlS_succ (s : ByteArray) (k : Nat) (h : k < s.size) : wlS s (k + 1) = nextS (wlS s k) (s[k]'h) := by
  unfold wlS wlk
  have hg : s.data.toList[k]? = some (s[k]'h) := by rw [Array.getElem?_toList, Array.getElem?_eq_getElem (by exact h)]; rfl
  rw [List.take_add_one, hg, List.foldl_append]
  rfl
theorem nextS_blank (ws : List ByteArray) : nextS ws 47 = ws ++ [⟨#[]⟩] := if_pos rfl
theorem nextS_byte (pre : List ByteArray) (last : ByteArray) {c : UInt8} (h : c ≠ 47) : nextS (pre ++ [last]) c = pre ++ [last ++ ⟨#[c]⟩] := by
  unfold nextS
  rw [if_neg h, List.dropLast_concat]
  simp
theorem foldl_wls : ∀ (l : List UInt8) (pre : List ByteArray) (x : ByteArray), (l.foldl nextS (pre ++ [x])).map (·.data.toList) = pre.map (·.data.toList) ++ (wls l).modifyHead (x.data.toList ++ ·)
  | [], pre, x => by simp [wls]
  | c :: t, pre, x => by
    obtain ⟨h, r, e⟩ := wls_cons t
    rw [List.foldl_cons]
    by_cases hc : c = 47
    · subst hc
      rw [nextS_blank, foldl_wls t (pre ++ [x]) ⟨#[]⟩]
      simp [wls, e]
    · rw [nextS_byte pre x hc, foldl_wls t pre (x ++ ⟨#[c]⟩)]
      simp [wls, hc, e]
theorem ranks_same (s : ByteArray) : wlS s s.size = (ranksB s).reverse := by
  have hi : ∀ x y : ByteArray, x.data.toList = y.data.toList → x = y := fun x y h => ba_eq h
  refine (List.map_inj_right hi).1 ?_
  unfold wlS wlk ranksB
  rw [List.reverse_reverse, List.take_of_length_le (by rw [Array.length_toList]; exact Nat.le_refl _)]
  have h1 := foldl_wls s.data.toList [] ⟨#[]⟩
  rw [List.nil_append] at h1
  rw [h1, Lib.splitB_data]
  obtain ⟨h, r, e⟩ := wls_cons s.data.toList
  have h2 : Lib.splitK slash.data.toList 0 (Lib.countB s slash) s.data.toList = wls s.data.toList := splitK_all s.data.toList
  rw [h2, e]
  simp
/-- what the reference's Parse holds: the result's box, the board's box, its pieces, the ranks -/
structure P6 (w : World) (B2 B6 base g : Nat) (ws : List ByteArray) (W : World) (f r : Int) (A : Option Addr) (c : Nat) (P : List Int) : Prop where
  t2 : Tri W B2 (.int .i64 0) (.int .i64 0) (.slice none 0 0)
  t6 : Tri W B6 (.int .i64 f) (.int .i64 r) (.slice A P.length c)
  own : Own1 qEnc 1 base 28 W A c P
  rk : ∀ (j : Nat) (x : ByteArray), ws[j]? = some x → W.cell? ⟨g, j, none⟩ = some (.string x)
  below : Below B2 w W
  big : base ≤ W.heap.size
  lt : B2 < B6 ∧ B6 < base ∧ g < B6 ∧ B2 < g
section
variable {w : World} {B2 B6 base g : Nat} {ws : List ByteArray} {W W0 W' w6 : World} {f r : Int} {A A6 : Option Addr} {c c6 : Nat} {P P2 : List Int}
theorem P6.next (h : P6 w B2 B6 base g ws W f r A c P) (hb : Below W.heap.size W W') : P6 w B2 B6 base g ws W' f r A c P := by
  obtain ⟨l1, l2, l3, l4⟩ := h.lt
  have hbig := h.big
  have hs := hb.size
  exact ⟨h.t2.next hb, h.t6.next hb, World.ownsRow.kept h.own (grown_of_below hb) (by cases hv : (Value.slice A P.length c).ownBlock <;> simp),
    fun j x hx => (hb.cell (p := ⟨g, j, none⟩) (by show g < _; omega)).trans (h.rk j x hx), h.below.trans (hb.mono (by omega)), by omega, h.lt⟩
theorem P6.first {w3 : World} (t2 : Tri w3 B2 (.int .i64 0) (.int .i64 0) (.slice none 0 0)) (rk : ∀ (j : Nat) (x : ByteArray), ws[j]? = some x → w3.cell? ⟨g, j, none⟩ = some (.string x)) (hb : Below B2 w w3) (hg : g < w3.heap.size) (hg2 : B2 < g) (t : TypeId) :
    P6 w B2 w3.heap.size (w3.heap.size + 1) g ws (w3.alloc (.cells #[.int .i64 0, .int .i64 0, .slice none 0 0] t)) 0 0 none 0 [] := by
  have hb0 : Below w3.heap.size w3 (w3.alloc (.cells #[.int .i64 0, .int .i64 0, .slice none 0 0] t)) := (Below.refl _ _).alloc (Nat.le_refl _) _
  exact ⟨t2.alloc _, tri_new _ _ _ _ _ _ rfl, owns_nil, fun j x hx => (hb0.cell (p := ⟨g, j, none⟩) hg).trans (rk j x hx), hb.trans (hb0.mono (by omega)), by simp, by omega, by omega, hg, hg2⟩
theorem Tri.set1 {w : World} {B : Nat} {x y z : Value} (h : Tri w B x y z) (y' : Value) : Tri (w.setCell ⟨B, 1, none⟩ y') B x y' z :=
  ⟨by rw [cell_off _ _ _ _ _ (by decide)]; exact h.c0, World.cell?_setCell_same' _ _ _ (by rw [h.c1]; rfl), by rw [cell_off _ _ _ _ _ (by decide)]; exact h.c2, fun i => by rw [World.frozen?_setCell]; exact h.fr i, by rw [nblk_set]; exact h.lt⟩
theorem P6.size (h : P6 w B2 B6 base g ws W f r A c P) (f' r' : Int) : P6 w B2 B6 base g ws ((W.setCell ⟨B6, 0, none⟩ (.int .i64 f')).setCell ⟨B6, 1, none⟩ (.int .i64 r')) f' r' A c P := by
  obtain ⟨l1, l2, l3, l4⟩ := h.lt
  have hne : (Value.slice A P.length c).ownBlock ≠ some B6 := fun e => by have := (World.ownsRow.lt h.own B6 e).1; omega
  refine ⟨(h.t2.other (by show B6 ≠ _; omega) _).other (by show B6 ≠ _; omega) _, (h.t6.set0 _).set1 _, ownsRow_setCell_other (ownsRow_setCell_other h.own hne _) hne _, fun j x hx => ?_, (h.below.setCell (p := ⟨B6, 0, none⟩) (by show B2 ≤ B6; omega) _).setCell (p := ⟨B6, 1, none⟩) (by show B2 ≤ B6; omega) _, by rw [nblk_set, nblk_set]; exact h.big, h.lt⟩
  rw [World.cell?_setCell_other _ _ _ _ (by intro e; simp only [Addr.mk.injEq] at e; omega), World.cell?_setCell_other _ _ _ _ (by intro e; simp only [Addr.mk.injEq] at e; omega)]
  exact h.rk j x hx
theorem P6.grown (h : P6 w B2 B6 base g ws W f r A c P) (hg : W.grownBy w6 (Value.slice A P.length c).ownBlock) :
    Tri w6 B2 (.int .i64 0) (.int .i64 0) (.slice none 0 0) ∧ Tri w6 B6 (.int .i64 f) (.int .i64 r) (.slice A P.length c) ∧ (∀ (j : Nat) (x : ByteArray), ws[j]? = some x → w6.cell? ⟨g, j, none⟩ = some (.string x)) ∧ Below B2 w w6 ∧ base ≤ w6.heap.size := by
  obtain ⟨l1, l2, l3, l4⟩ := h.lt
  have hbig := h.big
  have hsz : W.heap.size ≤ w6.heap.size := hg.size
  have hk : ∀ k, k < base → w6.heap[k]? = W.heap[k]? := fun k hk => hg.block k (by omega) (fun e => by have := (World.ownsRow.lt h.own k e.symm).1; omega)
  refine ⟨h.t2.of_block (hk _ (by omega)) hsz, h.t6.of_block (hk _ (by omega)) hsz, fun j x hx => (World.cell?_of_block (hk g (by omega))).trans (h.rk j x hx), ?_, by omega⟩
  have h0 := h.below.size
  refine ⟨?_, ?_, ?_, by omega, fun k hk2 => (hk k (by omega)).trans (h.below.block k hk2)⟩
  · exact hg.os.trans h.below.os
  · exact hg.tape.trans h.below.tape
  · exact hg.output.trans h.below.output
theorem P6.app (h : P6 w B2 B6 base g ws W f r A c P) (hg : W.grownBy w6 (Value.slice A P.length c).ownBlock) (ho : Own1 qEnc 1 base 28 w6 A6 c6 P2) :
    P6 w B2 B6 base g ws (w6.setCell ⟨B6, 2, none⟩ (.slice A6 P2.length c6)) f r A6 c6 P2 := by
  obtain ⟨l1, l2, l3, l4⟩ := h.lt
  obtain ⟨t2, t6, rk, bl, bg⟩ := h.grown hg
  refine ⟨t2.other (by show B6 ≠ _; omega) _, t6.set2 _, ownsRow_setCell_other ho (fun e => by have := (World.ownsRow.lt ho B6 e).1; omega) _, fun j x hx => ?_, bl.setCell (p := ⟨B6, 2, none⟩) (by show B2 ≤ B6; omega) _, by rw [nblk_set]; exact bg, h.lt⟩
  rw [World.cell?_setCell_other _ _ _ _ (by intro e; simp only [Addr.mk.injEq] at e; omega)]
  exact rk j x hx
end
/-- what the reference's Parse returns -/
def RP (s : ByteArray) (w : World) (e : Ending) (w' : World) : Prop :=
  match refP s with
  | none => e = .returned (.tuple #[bV 0 0 none 0 0, .bool false]) ∧ Below w.heap.size w w'
  | some (f, r, P) => ∃ (A : Option Addr) (c : Nat), e = .returned (.tuple #[bV (f : Int) (r : Int) A P.length c, .bool true]) ∧ O1 qEnc 1 w.heap.size 28 w w' A c P
theorem RP_none {s : ByteArray} {w w' : World} {e : Ending} (h : refP s = none) (h2 : e = .returned (.tuple #[bV 0 0 none 0 0, .bool false]) ∧ Below w.heap.size w w') : RP s w e w' := by unfold RP; rw [h]; exact h2
theorem RP_some {s : ByteArray} {w w' : World} {e : Ending} {f r : Nat} {P : List Int} (h : refP s = some (f, r, P)) (h2 : ∃ (A : Option Addr) (c : Nat), e = .returned (.tuple #[bV (f : Int) (r : Int) A P.length c, .bool true]) ∧ O1 qEnc 1 w.heap.size 28 w w' A c P) : RP s w e w' := by unfold RP; rw [h]; exact h2
theorem refP_far {s : ByteArray} (h : (ranksB s).length < 3 ∨ 8 < (ranksB s).length) : refP s = none := by unfold refP; rw [if_pos h]
theorem refP_bad {s : ByteArray} {k : Nat} (h : rfL ((ranksB s).take k) = none) : refP s = none := by
  unfold refP
  split
  · rfl
  · rw [rfL_none h]; rfl
theorem refP_ok {s : ByteArray} (h : ¬ ((ranksB s).length < 3 ∨ 8 < (ranksB s).length)) {f : Nat} {P : List Int} (h2 : rfL (ranksB s) = some (f, P)) : refP s = some (f, (ranksB s).length, P) := by
  unfold refP; rw [if_neg h, h2]; rfl
theorem rfStep_no1 {f : Nat} {P : List Int} {x : ByteArray} (h : rdL x.data.toList = none) : rfStep (some (f, P)) x = none := by unfold rfStep; simp only [h]
theorem rfStep_no2 {f : Nat} {P row : List Int} {dg : Bool} {x : ByteArray} (h : rdL x.data.toList = some (row, dg)) (h3 : row.length < 3 ∨ 8 < row.length) : rfStep (some (f, P)) x = none := by unfold rfStep; simp only [h, if_pos h3]
theorem rfStep_no3 {f : Nat} {P row : List Int} {dg : Bool} {x : ByteArray} (h : rdL x.data.toList = some (row, dg)) (h3 : ¬ (row.length < 3 ∨ 8 < row.length)) (h4 : 0 < P.length ∧ row.length ≠ f) : rfStep (some (f, P)) x = none := by unfold rfStep; simp only [h, if_neg h3, if_pos h4]
end Go.Proofs.YtjglpphfkkabnaaDoor
