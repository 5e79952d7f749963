/- Layer 35: the traces of a tree, in memory; who is called for each move, and what he may write. -/
import Derived.Test.YteaclphankckiaaTb
import Derived.Test.YteaclphankckiaaTp
import Derived.Laws.OwnMore
namespace Go.Proofs.Yteaclphankckiaa
open Go Go.RowKit
set_option linter.unusedSimpArgs false
set_option linter.unusedVariables false

/-- all old blocks but those of O are as they were -/
structure GFr (O : Nat → Prop) (w w' : World) : Prop where
  os : w'.os = w.os
  tape : w'.tape = w.tape
  output : w'.output = w.output
  size : w.heap.size ≤ w'.heap.size
  block : ∀ b, b < w.heap.size → ¬ O b → w'.heap[b]? = w.heap[b]?
theorem GFr.refl (O : Nat → Prop) (w : World) : GFr O w w := ⟨rfl, rfl, rfl, Nat.le_refl _, fun _ _ _ => rfl⟩
theorem GFr.grown {O : Nat → Prop} {w0 w w' : World} {r : Option Nat} (h : GFr O w0 w) (hg : w.grownBy w' r) (hr : ∀ b, r = some b → b < w0.heap.size → O b) : GFr O w0 w' :=
  ⟨hg.os.trans h.os, hg.tape.trans h.tape, hg.output.trans h.output, Nat.le_trans h.size hg.size, fun b hb ho => (hg.block b (Nat.lt_of_lt_of_le hb h.size) (fun e => ho (hr b e.symm hb))).trans (h.block b hb ho)⟩
theorem GFr.trans {O O' : Nat → Prop} {w0 w w' : World} (h : GFr O w0 w) (h' : GFr O' w w') (hO : ∀ b, O' b → b < w0.heap.size → O b) : GFr O w0 w' :=
  ⟨h'.os.trans h.os, h'.tape.trans h.tape, h'.output.trans h.output, Nat.le_trans h.size h'.size, fun b hb ho => (h'.block b (Nat.lt_of_lt_of_le hb h.size) (fun e => ho (hO b e hb))).trans (h.block b hb ho)⟩
/-- nothing of O lies below b0 -/
theorem GFr.below {O : Nat → Prop} {w w' : World} {b0 : Nat} (h : GFr O w w') (hO : ∀ b, O b → b0 ≤ b) (hb : b0 ≤ w.heap.size) : Below b0 w w' :=
  ⟨h.os, h.tape, h.output, h.size, fun b hb2 => h.block b (by omega) (fun e => by have := hO b e; omega)⟩
/-- who is called with the path of a move: his own blocks O, what he may write -/
structure VFr (O O' : Nat → Prop) (r : Option Nat) (w w' : World) : Prop where
  fr : GFr O w w'
  own : ∀ b, O' b → O b ∨ w.heap.size ≤ b ∨ r = some b
  lt : ∀ b, O' b → b < w'.heap.size
def Visit (F : Nat) (caps : Array Value) (t : List Nd) (base : Nat) (I : Nat → (Nat → Prop) → World → Prop) : Prop :=
  ∀ (k : Nat) (x : Nd) (O : Nat → Prop) (W : World) (A : Option Addr) (c : Nat), t[k]? = some x → I k O W → (∀ b, O b → base ≤ b ∧ b < W.heap.size) → base ≤ W.heap.size →
    Own1 iEnc 1 base 3 W A c (pth (back t (k + 1))) → (∀ b, (Value.slice A (pth (back t (k + 1))).length c).ownBlock = some b → ¬ O b) →
    Calls Try.prog F (#[.int .i64 (k : Int), .slice A (pth (back t (k + 1))).length c] ++ caps) W fun e W' => e = .returned (.tuple #[]) ∧ ∃ O', I (k + 1) O' W' ∧ VFr O O' (Value.slice A (pth (back t (k + 1))).length c).ownBlock W W'
/-- what he holds stays while only others' blocks are written -/
def Stays (base : Nat) (I : Nat → (Nat → Prop) → World → Prop) : Prop := ∀ (k : Nat) (O : Nat → Prop) (W W' : World) (r : Option Nat), I k O W → (∀ b, O b → b < W.heap.size) → base ≤ W.heap.size → W.grownBy W' r → (∀ b, r = some b → ¬ O b ∧ base ≤ b) → I k O W'
def trEnc (e : Tr) : List Value := [.int .i64 e.1.1, .int .i64 e.1.2.1, .int .i8 e.1.2.2, .int .i64 e.2]
theorem trEnc_len (e : Tr) : (trEnc e).length = 4 := rfl
theorem trEnc_one (e : Tr) : ∀ u ∈ trEnc e, u.oneCell' = true := by
  intro u hu
  simp only [trEnc, List.mem_cons, List.not_mem_nil, or_false] at hu
  rcases hu with rfl | rfl | rfl | rfl <;> rfl
theorem trRow : RowOf Try.prog 85 87 4 32 :=
  RowOf.mk' (z := .agg #[.int .i64 0, .int .i64 0, .int .i8 0, .int .i64 0]) Try.underlying85 (by kernel_rfl) (by decide) (by decide) rfl
theorem tr4 {w : World} {B : Nat} {A : Option Addr} {l : List Tr} (h : RecAt trEnc 4 w B A l) {k : Nat} {x : Tr} (hx : l[k]? = some x) :
    ∃ b off, A = some ⟨b, off, none⟩ ∧ b < B ∧ w.cell? ⟨b, off + k * 4, none⟩ = some (.int .i64 x.1.1) ∧ w.cell? ⟨b, off + k * 4 + 1, none⟩ = some (.int .i64 x.1.2.1) ∧ w.cell? ⟨b, off + k * 4 + 3, none⟩ = some (.int .i64 x.2) := by
  obtain ⟨b, off, e, hb, hc⟩ := h (by have := (List.getElem?_eq_some_iff.1 hx).1; omega)
  exact ⟨b, off, e, hb, hc k x hx 0 _ rfl, hc k x hx 1 _ rfl, hc k x hx 3 _ rfl⟩
/-- a new record, just laid -/
theorem recs_tr (w : World) (x : Tr) (t : TypeId) {b : Nat} (hb : b = w.heap.size) : RecAt trEnc 4 (w.alloc (.cells #[.int .i64 x.1.1, .int .i64 x.1.2.1, .int .i8 x.1.2.2, .int .i64 x.2] t)) (w.alloc (.cells #[.int .i64 x.1.1, .int .i64 x.1.2.1, .int .i8 x.1.2.2, .int .i64 x.2] t)).heap.size (some ⟨b, 0, none⟩) [x] := by
  subst hb
  intro _
  have h2 := heap_alloc_new w (.cells #[.int .i64 x.1.1, .int .i64 x.1.2.1, .int .i8 x.1.2.2, .int .i64 x.2] t)
  refine ⟨w.heap.size, 0, rfl, by simp, fun k y hk j u hu => ?_⟩
  have hk0 : k = 0 := by have := (List.getElem?_eq_some_iff.1 hk).1; simp at this; omega
  subst hk0
  obtain rfl : x = y := by simpa using hk
  match j, hu with
  | 0, hu => rw [show u = .int .i64 x.1.1 from (Option.some.inj hu).symm, cell_of_row _ _ _ _ _ _ h2]; rfl
  | 1, hu => rw [show u = .int .i64 x.1.2.1 from (Option.some.inj hu).symm, cell_of_row _ _ _ _ _ _ h2]; rfl
  | 2, hu => rw [show u = .int .i8 x.1.2.2 from (Option.some.inj hu).symm, cell_of_row _ _ _ _ _ _ h2]; rfl
  | 3, hu => rw [show u = .int .i64 x.2 from (Option.some.inj hu).symm, cell_of_row _ _ _ _ _ _ h2]; rfl
  | (j + 4), hu => simp [trEnc] at hu
/-- the state of a walk over the traces -/
structure TS (I : Nat → (Nat → Prop) → World → Prop) (base : Nat) (O0 : Nat → Prop) (w0 : World) (k : Nat) (w : World) (A : Option Addr) (c : Nat) (L : List Tr) (O : Nat → Prop) : Prop where
  inv : I k O w
  ob : ∀ b, O b → base ≤ b ∧ b < w.heap.size
  on : ∀ b, O b → O0 b ∨ w0.heap.size ≤ b
  row : Own1 trEnc 4 w0.heap.size 87 w A c L
  dj : ∀ b, (Value.slice A L.length c).ownBlock = some b → ¬ O b
  fr : GFr O0 w0 w
  bs : base ≤ w0.heap.size
section
variable {I : Nat → (Nat → Prop) → World → Prop} {base : Nat} {O0 O : Nat → Prop} {w0 w w' : World} {k : Nat} {A A' : Option Addr} {c c' : Nat} {L L' : List Tr}
theorem TS.grown (h : TS I base O0 w0 k w A c L O) (hI : Stays base I) {r : Option Nat} (hg : w.grownBy w' r) (hr : ∀ b, r = some b → ¬ O b ∧ w0.heap.size ≤ b ∧ (Value.slice A L.length c).ownBlock ≠ some b) : TS I base O0 w0 k w' A c L O :=
  ⟨hI k O w w' r h.inv (fun b hb => (h.ob b hb).2) (Nat.le_trans h.bs h.fr.size) hg (fun b hb => ⟨(hr b hb).1, by have := (hr b hb).2.1; have := h.bs; omega⟩), fun b hb => ⟨(h.ob b hb).1, Nat.lt_of_lt_of_le (h.ob b hb).2 hg.size⟩, h.on,
    World.ownsRow.kept h.row hg (by
      cases hv : (Value.slice A L.length c).ownBlock with
      | none => exact .inl rfl
      | some b => exact .inr (fun e => (hr b e.symm).2.2 hv)), h.dj, h.fr.grown hg (fun b hb hlt => by have := (hr b hb).2.1; omega), h.bs⟩
theorem TS.next (h : TS I base O0 w0 k w A c L O) (hI : Stays base I) (hb : Below w.heap.size w w') : TS I base O0 w0 k w' A c L O := h.grown hI (grown_of_below hb) (fun b e => by cases e)
theorem TS.cut (h : TS I base O0 w0 k w A c L O) {n : Nat} (hn : n ≤ L.length) : TS I base O0 w0 k w A c (L.take n) O :=
  ⟨h.inv, h.ob, h.on, own_take trEnc_len h.row hn, fun b hb => h.dj b (by rw [← hb]; exact ownBlock_len _ _ _ _), h.fr, h.bs⟩
theorem TS.app (h : TS I base O0 w0 k w A c L O) (hI : Stays base I) (hown : w'.ownsRow w0.heap.size 87 4 (.slice A' L'.length c') L'.length (flatR trEnc L')) (hg : w.grownBy w' (Value.slice A L.length c).ownBlock)
    (hat : (Value.slice A' L'.length c').ownBlock = (Value.slice A L.length c).ownBlock ∨ (Value.slice A' L'.length c').ownBlock = some w.heap.size) : TS I base O0 w0 k w' A' c' L' O :=
  ⟨hI k O w w' _ h.inv (fun b hb => (h.ob b hb).2) (Nat.le_trans h.bs h.fr.size) hg (fun b hb => ⟨h.dj b hb, by have := (World.ownsRow.lt h.row b hb).1; have := h.bs; omega⟩), fun b hb => ⟨(h.ob b hb).1, Nat.lt_of_lt_of_le (h.ob b hb).2 hg.size⟩, h.on, hown, fun b hb ho => by
    rcases hat with e | e
    · exact h.dj b (by rw [← e, hb]) ho
    · rw [hb] at e
      have := (h.ob b ho).2
      have := Option.some.inj e
      omega, h.fr.grown hg (fun b hb hlt => by have := (World.ownsRow.lt h.row b hb).1; omega), h.bs⟩
theorem own_block {α : Type} {f : α → List Value} {size b0 : Nat} {e : TypeId} {l : List α} (h : Own1 f size b0 e w A c l) (hb : ∀ b, (Value.slice A l.length c).ownBlock = some b → w'.heap[b]? = w.heap[b]?) : Own1 f size b0 e w' A c l := by
  obtain ⟨h1, h2⟩ := h
  refine ⟨h1, ?_⟩
  rcases h2 with h2 | ⟨g, cap, cur, hv, hg, hh, r⟩
  · exact .inl h2
  · exact .inr ⟨g, cap, cur, hv, hg, (hb g (by rw [hv]; rfl)).trans hh, r⟩
theorem TS.visit {O' : Nat → Prop} {r : Option Nat} (h : TS I base O0 w0 k w A c L O) (hbase : base ≤ w0.heap.size) (hi : I (k + 1) O' w') (hv : VFr O O' r w w') (hr : ∀ b, r = some b → w0.heap.size ≤ b ∧ (Value.slice A L.length c).ownBlock ≠ some b) : TS I base O0 w0 (k + 1) w' A c L O' :=
  ⟨hi, fun b hb => ⟨by
      have h0 := h.fr.size
      rcases hv.own b hb with e | e | e
      · exact (h.ob b e).1
      · omega
      · have := (hr b e).1; omega, hv.lt b hb⟩, fun b hb => by
      have h0 := h.fr.size
      rcases hv.own b hb with e | e | e
      · exact h.on b e
      · exact .inr (by omega)
      · exact .inr (hr b e).1, own_block h.row (fun b hb => hv.fr.block b (World.ownsRow.lt h.row b hb).2 (h.dj b hb)), fun b hb ho => by
      rcases hv.own b ho with e | e | e
      · exact h.dj b hb e
      · have := (World.ownsRow.lt h.row b hb).2; omega
      · exact (hr b e).2 hb, h.fr.trans hv.fr (fun b hb hlt => by
      rcases h.on b hb with e | e
      · exact e
      · omega), h.bs⟩
/-- t's nodes lie below all that is written -/
theorem TS.recs (h : TS I base O0 w0 k w A c L O) (h0 : ∀ b, O0 b → base ≤ b) {At : Option Addr} {t : List Nd} (hT : RecAt nEnc 4 w0 base At t) (hb : base ≤ w0.heap.size) : RecAt nEnc 4 w base At t :=
  hT.below (Nat.le_refl _) (h.fr.below h0 hb)
theorem TS.first (hI : I 0 O0 w) (hb : base ≤ w.heap.size) (h0 : ∀ b, O0 b → base ≤ b ∧ b < w.heap.size) : TS I base O0 w 0 w none 0 [] O0 :=
  ⟨hI, h0, fun b hb => .inl hb, owns_nil, (fun b hb => by cases hb), GFr.refl _ _, hb⟩
end
end Go.Proofs.Yteaclphankckiaa
