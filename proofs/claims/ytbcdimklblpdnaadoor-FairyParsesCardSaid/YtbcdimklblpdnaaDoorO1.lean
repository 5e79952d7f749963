/- A row of one's own beside which nothing below a base has turned. No program in sight. -/
import Derived.Test.YtbcdimklblpdnaaDoorOx
import Derived.Test.YtbcdimklblpdnaaDoorTri
import Derived.OneCell
import Derived.Lib.Hide
namespace Go.Proofs.YtbcdimklblpdnaaDoor
open Go Go.RowKit
set_option linter.unusedSimpArgs false
set_option linter.unusedVariables false

theorem below_all {w0 w w' : World} (h : Below w0.heap.size w0 w) (hb : Below w.heap.size w w') : Below w0.heap.size w0 w' := h.trans (hb.mono h.size)
theorem Tri.of_block {w w' : World} {B : Nat} {x y z : Value} (h : Tri w B x y z) (hb : w'.heap[B]? = w.heap[B]?) (hs : w.heap.size ≤ w'.heap.size) : Tri w' B x y z :=
  ⟨(World.cell?_of_block hb).trans h.c0, (World.cell?_of_block hb).trans h.c1, (World.cell?_of_block hb).trans h.c2, fun i => by have := h.fr i; simp only [World.frozen?] at this ⊢; rw [hb]; exact this, Nat.lt_of_lt_of_le h.lt hs⟩
theorem grown_of_below {w w' : World} (hb : Below w.heap.size w w') : w.grownBy w' none := ⟨hb.os, hb.tape, hb.output, hb.size, fun k hk _ => hb.block k hk⟩
section
variable {α : Type} {f : α → List Value} {size : Nat}
/-- a row of one's own; below the base nothing has turned -/
structure O1 (f : α → List Value) (size : Nat) (base : Nat) (e : TypeId) (w0 w : World) (A : Option Addr) (c : Nat) (l : List α) : Prop where
  own : Own1 f size base e w A c l
  below : Below base w0 w
  size : base ≤ w.heap.size
variable {base b' : Nat} {e : TypeId} {w00 w0 w w' : World} {A A' : Option Addr} {c c' : Nat} {l l' : List α}
theorem O1.alloc (h : O1 f size base e w0 w A c l) (o : Obj) : O1 f size base e w0 (w.alloc o) A c l :=
  ⟨World.ownsRow.alloc h.own o, h.below.alloc h.size o, Nat.le_trans h.size (by simp)⟩
theorem O1.next (h : O1 f size base e w0 w A c l) (hb : Below w.heap.size w w') : O1 f size base e w0 w' A c l :=
  ⟨World.ownsRow.kept h.own (grown_of_below hb) (by cases hv : (Value.slice A l.length c).ownBlock <;> simp), h.below.trans (hb.mono h.size), Nat.le_trans h.size hb.size⟩
theorem O1.app (h : O1 f size base e w0 w A c l) (hown : w'.ownsRow base e size (.slice A' l'.length c') l'.length (flatR f l')) (hg : w.grownBy w' (Value.slice A l.length c).ownBlock) : O1 f size base e w0 w' A' c' l' :=
  ⟨hown, h.below.grown hg h.size (fun k hk => (World.ownsRow.lt h.own k hk).1), Nat.le_trans h.size hg.size⟩
theorem O1.nil (hb : Below base w0 w) (hs : base ≤ w.heap.size) : O1 f size base e w0 w none 0 ([] : List α) := ⟨owns_nil, hb, hs⟩
theorem O1.drew (h : O1 f size base e w0 w A c l) : O1 f size base e w0 w.drew A c l := ⟨h.own, h.below.drew, h.size⟩
theorem own_lower {v : Value} {n : Nat} {xs : List Value} (h : w.ownsRow base e size v n xs) (hb : b' ≤ base) : w.ownsRow b' e size v n xs := by
  obtain ⟨h1, h2⟩ := h
  refine ⟨h1, ?_⟩
  rcases h2 with h2 | ⟨g, cap, cur, hv, hg, r⟩
  · exact .inl h2
  · exact .inr ⟨g, cap, cur, hv, by omega, r⟩
theorem O1.lower (h : O1 f size base e w0 w A c l) (hb : b' ≤ base) (hB : Below b' w00 w0) : O1 f size b' e w00 w A c l := ⟨own_lower h.own hb, hB.trans (h.below.mono hb), by have := h.size; omega⟩
/-- what a row of one's own reads as -/
theorem O1.recs (hf : ∀ x, (f x).length = size) (h : O1 f size base e w0 w A c l) : RecAt f size w w.heap.size A l := RecAt.of_own hf rfl h.own
theorem own_cap (h : Own1 f size base e w A c l) (h0 : 0 < l.length) : l.length ≤ c := by
  rcases h.2 with ⟨_, h1⟩ | ⟨g, cap, cur, hv, _, _, hle, _⟩
  · omega
  · simp only [Value.slice.injEq] at hv
    obtain ⟨_, _, rfl⟩ := hv
    exact hle
theorem O1.setB (h : O1 f size base e w0 w A c l) {B : Nat} (hB : B < base) (hb : b' ≤ B) (h0 : Below b' w00 w0) (i : Nat) (x : Value) : O1 f size b' e w00 (w.setCell ⟨B, i, none⟩ x) A c l := by
  have hne : (Value.slice A l.length c).ownBlock ≠ some B := fun e => by have := (World.ownsRow.lt h.own B e).1; omega
  refine ⟨own_lower (ownsRow_setCell_other h.own hne x) (by omega), (h0.trans (h.below.mono (by omega))).setCell (p := ⟨B, i, none⟩) hb x, ?_⟩
  rw [nblk_set]
  have := h.size
  omega
end
section
variable {α : Type} {f : α → List Value} {g : α → Value} {base : Nat} {e : TypeId} {w0 W : World} {A : Option Addr} {c : Nat} {l : List α}
theorem flat1 (hf : ∀ x, f x = [g x]) (l : List α) : flatR f l = l.map g := by
  induction l with
  | nil => rfl
  | cons x l ih => show f x ++ flatR f l = _; rw [ih, hf]; rfl
theorem O1.form {size : Nat} (h : O1 f size base e w0 W A c l) (h0 : 0 < l.length) : ∃ g, A = some ⟨g, 0, none⟩ ∧ base ≤ g ∧ g < W.heap.size := by
  rcases h.own.2 with ⟨_, h1⟩ | ⟨g, cap, cur, hv, hb, _⟩
  · omega
  · simp only [Value.slice.injEq] at hv
    exact ⟨g, hv.1, hb, (World.ownsRow.lt h.own g (by rw [hv.1]; rfl)).2⟩
theorem O1.cell1 (hf : ∀ x, f x = [g x]) {b : Nat} (h : O1 f 1 base e w0 W (some ⟨b, 0, none⟩) c l) {k : Nat} {x : α} (hx : l[k]? = some x) : W.cell? ⟨b, k, none⟩ = some (g x) := by
  have hk : k < l.length := (List.getElem?_eq_some_iff.1 hx).1
  have h2 := World.ownsRow.cellAt h.own k (by omega)
  rw [h2, flat1 hf, List.getElem?_map, hx]; rfl
theorem O1.set1 (hf : ∀ x, f x = [g x]) {b : Nat} (h : O1 f 1 base e w0 W (some ⟨b, 0, none⟩) c l) (k : Nat) (x : α) {v : Value} (hv : v = g x) : O1 f 1 base e w0 (W.setCell ⟨b, k, none⟩ v) (some ⟨b, 0, none⟩) c (l.set k x) := by
  subst hv
  have ho := h.own
  obtain ⟨h1, h2⟩ := World.ownsRow.stored ho k (g x)
  refine ⟨?_, h.below.grown h2 h.size (fun k hk => (World.ownsRow.lt ho k hk).1), Nat.le_trans h.size h2.size⟩
  unfold Own1
  rw [flat1 hf] at h1
  rw [List.length_set, flat1 hf, List.map_set]
  exact h1
/-- one record of one cell, just laid -/
theorem recs_one (hf : ∀ x, f x = [g x]) (w : World) (x : α) (t : TypeId) : RecAt f 1 (w.alloc (.cells #[g x] t)) (w.alloc (.cells #[g x] t)).heap.size (some ⟨w.heap.size, 0, none⟩) [x] := by
  intro _
  refine ⟨w.heap.size, 0, rfl, by simp, fun k y hk j u hu => ?_⟩
  have hk0 : k = 0 := by have := (List.getElem?_eq_some_iff.1 hk).1; simp at this; omega
  subst hk0
  obtain rfl : x = y := by simpa using hk
  rw [hf] at hu
  match j, hu with
  | 0, hu => rw [show u = g x from (Option.some.inj hu).symm]; simp
  | (j + 1), hu => simp at hu
end
end Go.Proofs.YtbcdimklblpdnaaDoor
