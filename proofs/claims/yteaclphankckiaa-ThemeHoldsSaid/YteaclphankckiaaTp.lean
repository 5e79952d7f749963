/- Layer 35: the place of a tree that is read: a row of maps, in memory. -/
import Derived.Test.YteaclphankckiaaTs
namespace Go.Proofs.Yteaclphankckiaa
open Go Go.RowKit
set_option linter.unusedSimpArgs false
set_option linter.unusedVariables false

theorem flatR_take {α : Type} {f : α → List Value} {size : Nat} (hf : ∀ x, (f x).length = size) (l : List α) (k : Nat) (hk : k ≤ l.length) : flatR f (l.take k) = (flatR f l).take (k * size) := by
  have h1 : flatR f l = flatR f (l.take k) ++ flatR f (l.drop k) := by rw [← flatR_append, List.take_append_drop]
  have h2 : (flatR f (l.take k)).length = k * size := by rw [flatR_length hf, List.length_take, Nat.min_eq_left hk]
  have h3 : (flatR f (l.take k) ++ flatR f (l.drop k)).take (k * size) = flatR f (l.take k) := by rw [← h2, List.take_left]
  rw [h1, h3]
/-- the first k of a row of one's own -/
theorem own_take {α : Type} {f : α → List Value} {size base : Nat} {e : TypeId} {w : World} {A : Option Addr} {c : Nat} {l : List α} (hf : ∀ x, (f x).length = size) (h : Own1 f size base e w A c l) {k : Nat} (hk : k ≤ l.length) : Own1 f size base e w A c (l.take k) := by
  have hl : (l.take k).length = k := by rw [List.length_take, Nat.min_eq_left hk]
  unfold Own1 at *
  rw [hl]
  obtain ⟨h1, h2⟩ := h
  refine ⟨by rw [flatR_length hf, hl], ?_⟩
  rcases h2 with ⟨hv, h0⟩ | ⟨g, cap, cur, hv, hg, hh, hle, hcm, hcs, ht⟩
  · left
    obtain rfl : k = 0 := by omega
    rw [h0] at hv
    exact ⟨hv, rfl⟩
  · right
    simp only [Value.slice.injEq] at hv
    obtain ⟨rfl, _, rfl⟩ := hv
    refine ⟨g, c, cur, rfl, hg, hh, by omega, hcm, hcs, ?_⟩
    rw [flatR_take hf l k hk, ← ht, List.take_take, Nat.min_eq_left (Nat.mul_le_mul_right size hk)]
def bEnc (b : Nat) : List Value := [.map (some b)]
theorem bEnc_len (b : Nat) : (bEnc b).length = 1 := rfl
theorem bEnc_one (b : Nat) : ∀ u ∈ bEnc b, u.oneCell' = true := by
  intro u hu
  simp only [bEnc, List.mem_cons, List.not_mem_nil, or_false] at hu
  subst hu; rfl
theorem mapRow : RowOf Try.prog 76 94 1 8 :=
  RowOf.mk' (z := .map none) Try.underlying76 (by kernel_rfl) (by decide) (by decide) rfl
/-- block Bp holds a row of maps of one's own, the j-th one a set of moves -/
structure PL (w0 w : World) (b0 Bp base n : Nat) (A : Option Addr) (c : Nat) (L : List Nat) (S : Nat → List Mv) : Prop where
  cell : w.cell? ⟨Bp, 0, none⟩ = some (.slice A L.length c)
  fr : w.frozen? ⟨Bp, 0, none⟩ = false
  own : Own1 bEnc 1 base 94 w A c L
  sets : ∀ j b, L[j]? = some b → MSet w b n (S j) ∧ base ≤ b ∧ (Value.slice A L.length c).ownBlock ≠ some b
  apart : ∀ (i j b : Nat), L[i]? = some b → L[j]? = some b → i = j
  lt : b0 ≤ Bp ∧ Bp < base ∧ base ≤ w.heap.size
  below : Below b0 w0 w
section
variable {w0 w w' : World} {b0 Bp base n : Nat} {A A' : Option Addr} {c c' : Nat} {L : List Nat} {S S' : Nat → List Mv}
theorem PL.next (h : PL w0 w b0 Bp base n A c L S) (hb : Below w.heap.size w w') : PL w0 w' b0 Bp base n A c L S := by
  obtain ⟨l1, l2, l3⟩ := h.lt
  refine ⟨(hb.cell (p := ⟨Bp, 0, none⟩) (by show Bp < _; omega)).trans h.cell, (hb.frozen (p := ⟨Bp, 0, none⟩) (by show Bp < _; omega)).trans h.fr,
    World.ownsRow.kept h.own (grown_of_below hb) (by cases hv : (Value.slice A L.length c).ownBlock <;> simp), fun j b hj => ?_, h.apart, ⟨l1, l2, Nat.le_trans l3 hb.size⟩, h.below.trans (hb.mono (by omega))⟩
  obtain ⟨h1, h2, h3⟩ := h.sets j b hj
  exact ⟨h1.of_block (hb.block b h1.lt), h2, h3⟩
theorem PL.drew (h : PL w0 w b0 Bp base n A c L S) : PL w0 w.drew b0 Bp base n A c L S :=
  ⟨h.cell, h.fr, h.own, fun j b hj => (h.sets j b hj), h.apart, h.lt, h.below.drew⟩
theorem PL.mono (h : PL w0 w b0 Bp base n A c L S) {n' : Nat} (hn : n ≤ n') : PL w0 w b0 Bp base n' A c L S :=
  ⟨h.cell, h.fr, h.own, fun j b hj => ⟨(h.sets j b hj).1.mono hn, (h.sets j b hj).2⟩, h.apart, h.lt, h.below⟩
theorem PL.congr (h : PL w0 w b0 Bp base n A c L S) (e : ∀ j, j < L.length → S j = S' j) : PL w0 w b0 Bp base n A c L S' :=
  ⟨h.cell, h.fr, h.own, fun j b hj => by rw [← e j (List.getElem?_eq_some_iff.1 hj).1]; exact h.sets j b hj, h.apart, h.lt, h.below⟩
theorem ownBlock_len (A : Option Addr) (n m c : Nat) : (Value.slice A n c).ownBlock = (Value.slice A m c).ownBlock := by cases A <;> rfl
theorem get_of_take {L : List Nat} {k j b : Nat} (hj : (L.take k)[j]? = some b) : L[j]? = some b := by
  rw [List.getElem?_take] at hj
  split at hj
  · exact hj
  · cases hj
/-- p.seen = p.seen[:k] -/
theorem PL.cut (h : PL w0 w b0 Bp base n A c L S) {k : Nat} (hk : k ≤ L.length) : PL w0 (w.setCell ⟨Bp, 0, none⟩ (.slice A k c)) b0 Bp base n A c (L.take k) S := by
  obtain ⟨l1, l2, l3⟩ := h.lt
  have hl : (L.take k).length = k := by rw [List.length_take, Nat.min_eq_left hk]
  have hne : (Value.slice A (L.take k).length c).ownBlock ≠ some Bp := fun e => by
    have := (World.ownsRow.lt (own_take bEnc_len h.own hk) Bp e).1; omega
  refine ⟨?_, by rw [World.frozen?_setCell]; exact h.fr, ownsRow_setCell_other (own_take bEnc_len h.own hk) hne _, fun j b hj => ?_, fun i j b hi hj => h.apart i j b (get_of_take hi) (get_of_take hj), ⟨l1, l2, by rw [nblk_set]; exact l3⟩, h.below.setCell (p := ⟨Bp, 0, none⟩) l1 _⟩
  · rw [hl]
    exact World.cell?_setCell_same' _ _ _ (by rw [h.cell]; rfl)
  · obtain ⟨h1, h2, h3⟩ := h.sets j b (get_of_take hj)
    have hbBp : b ≠ Bp := fun e => by omega
    refine ⟨h1.of_block (Below.heap_setCell _ _ _ _ (fun e => hbBp (by first | exact e | exact e.symm))), h2, ?_⟩
    rw [ownBlock_len _ _ L.length]
    exact h3
/-- the j-th set gains a move -/
theorem PL.put (h : PL w0 w b0 Bp base n A c L S) {j b : Nat} (hj : L[j]? = some b) {m : Mv} (hm : MSet w' b (n + 1) (m :: S j)) (hg : w.grownBy w' (some b)) : PL w0 w' b0 Bp base (n + 1) A c L (fun i => if i = j then m :: S j else S i) := by
  obtain ⟨l1, l2, l3⟩ := h.lt
  obtain ⟨h1, h2, h3⟩ := h.sets j b hj
  have hk : w'.heap[Bp]? = w.heap[Bp]? := hg.block Bp (by omega) (fun e => by have := Option.some.inj e; omega)
  refine ⟨(World.cell?_of_block hk).trans h.cell, by have := h.fr; simp only [World.frozen?] at this ⊢; rw [hk]; exact this, World.ownsRow.kept h.own hg (.inr h3), fun i b' hi => ?_, h.apart, ⟨l1, l2, Nat.le_trans l3 hg.size⟩, h.below.grown hg (by omega) (fun k hk => by have := Option.some.inj hk; omega)⟩
  obtain ⟨g1, g2, g3⟩ := h.sets i b' hi
  refine ⟨?_, g2, g3⟩
  by_cases e : i = j
  · subst e
    obtain rfl : b = b' := Option.some.inj (hj.symm.trans hi)
    show MSet w' b (n + 1) (if i = i then _ else _)
    rw [if_pos rfl]
    exact hm
  · show MSet w' b' (n + 1) (if i = j then _ else _)
    rw [if_neg e]
    exact (g1.of_block (hg.block b' g1.lt (fun e2 => e (h.apart i j b' hi (by rw [Option.some.inj e2]; exact hj))))).mono (by omega)
/-- one more set, empty -/
theorem PL.push (h : PL w0 w b0 Bp base n A c L S) (t : TypeId) (hown : w'.ownsRow base 94 1 (.slice A' (L ++ [w.heap.size]).length c') (L ++ [w.heap.size]).length (flatR bEnc (L ++ [w.heap.size])))
    (hg : ((w.alloc (.map #[] 0)).alloc (.cells #[.map (some w.heap.size)] t)).grownBy w' (Value.slice A L.length c).ownBlock)
    (hat : (Value.slice A' (L ++ [w.heap.size]).length c').ownBlock = (Value.slice A L.length c).ownBlock ∨ (Value.slice A' (L ++ [w.heap.size]).length c').ownBlock = some ((w.alloc (.map #[] 0)).alloc (.cells #[.map (some w.heap.size)] t)).heap.size) :
    PL w0 (w'.setCell ⟨Bp, 0, none⟩ (.slice A' (L ++ [w.heap.size]).length c')) b0 Bp base n A' c' (L ++ [w.heap.size]) (fun i => if i = L.length then [] else S i) := by
  obtain ⟨l1, l2, l3⟩ := h.lt
  have hb2 : Below w.heap.size w ((w.alloc (.map #[] 0)).alloc (.cells #[.map (some w.heap.size)] t)) := ((Below.refl _ _).alloc (Nat.le_refl _) _).alloc (by simp) _
  have hs2 : ((w.alloc (.map #[] 0)).alloc (.cells #[.map (some w.heap.size)] t)).heap.size = w.heap.size + 2 := by simp
  have hblt : ∀ k, (Value.slice A L.length c).ownBlock = some k → base ≤ k ∧ k < w.heap.size := fun k e => World.ownsRow.lt h.own k e
  have hblk : ∀ k, k < w.heap.size → (Value.slice A L.length c).ownBlock ≠ some k → w'.heap[k]? = w.heap[k]? := fun k hk hn => (hg.block k (by omega) (fun e => hn e.symm)).trans (hb2.block k hk)
  have hBp := hblk Bp (by omega) (fun e => by have := hblt Bp e; omega)
  have hne : (Value.slice A' (L ++ [w.heap.size]).length c').ownBlock ≠ some Bp := fun e => by have := (World.ownsRow.lt hown Bp e).1; omega
  have hbl : Below b0 w0 w' := (h.below.trans (hb2.mono (by omega))).grown hg (by omega) (fun k hk => by have := hblt k hk; omega)
  have hset : ∀ {b : Nat} {k : Nat} {ms : List Mv}, MSet w' b k ms → b ≠ Bp → MSet (w'.setCell ⟨Bp, 0, none⟩ (.slice A' (L ++ [w.heap.size]).length c')) b k ms := fun hm hn => hm.of_block (Below.heap_setCell _ _ _ _ (fun e => by first | exact hn e | exact hn e.symm))
  refine ⟨World.cell?_setCell_same' _ _ _ (by rw [World.cell?_of_block hBp, h.cell]; rfl), by rw [World.frozen?_setCell]; have := h.fr; simp only [World.frozen?] at this ⊢; rw [hBp]; exact this, ownsRow_setCell_other hown hne _, fun j b hj => ?_, fun i j b hi hj => ?_, ⟨l1, l2, by rw [nblk_set]; have := hg.size; omega⟩, hbl.setCell (p := ⟨Bp, 0, none⟩) l1 _⟩
  · by_cases hjl : j < L.length
    · rw [List.getElem?_append_left hjl] at hj
      obtain ⟨h1, h2, h3⟩ := h.sets j b hj
      refine ⟨?_, h2, ?_⟩
      · show MSet _ b n (if j = L.length then _ else _)
        rw [if_neg (by omega)]
        exact hset (h1.of_block (hblk b h1.lt h3)) (by omega)
      · rcases hat with e | e
        · rw [e]; exact h3
        · rw [e, hs2]; intro e2; have := Option.some.inj e2; have := h1.lt; omega
    · have hj2 : j = L.length := by
        have := (List.getElem?_eq_some_iff.1 hj).1
        rw [List.length_append, List.length_cons, List.length_nil] at this
        omega
      subst hj2
      rw [List.getElem?_append_right (Nat.le_refl _), Nat.sub_self] at hj
      obtain rfl : w.heap.size = b := by simpa using hj
      refine ⟨?_, l3, ?_⟩
      · show MSet _ _ n (if L.length = L.length then _ else _)
        rw [if_pos rfl]
        refine hset ?_ (by omega)
        have hm := (MSet.made w).mono (Nat.zero_le n)
        refine hm.of_block ((hg.block w.heap.size (by omega) (fun e => by have := hblt _ e.symm; omega)).trans ?_)
        exact ((Below.refl (w.alloc (.map #[] 0)).heap.size (w.alloc (.map #[] 0))).alloc (Nat.le_refl _) _).block w.heap.size (by simp)
      · rcases hat with e | e
        · rw [e]; intro e2; have := hblt _ e2; omega
        · rw [e, hs2]; intro e2; have := Option.some.inj e2; omega
  · have hfull : ∀ {i : Nat}, (L ++ [w.heap.size])[i]? = some b → (i < L.length ∧ L[i]? = some b) ∨ (i = L.length ∧ b = w.heap.size) := fun {i} hi => by
      by_cases hil : i < L.length
      · rw [List.getElem?_append_left hil] at hi; exact .inl ⟨hil, hi⟩
      · have hi2 : i = L.length := by
          have := (List.getElem?_eq_some_iff.1 hi).1
          rw [List.length_append, List.length_cons, List.length_nil] at this
          omega
        subst hi2
        rw [List.getElem?_append_right (Nat.le_refl _), Nat.sub_self] at hi
        exact .inr ⟨rfl, by simpa using hi.symm⟩
    rcases hfull hi with ⟨h1, h2⟩ | ⟨h1, h2⟩ <;> rcases hfull hj with ⟨h3, h4⟩ | ⟨h3, h4⟩
    · exact h.apart i j b h2 h4
    · have := (h.sets i b h2).1.lt; omega
    · have := (h.sets j b h4).1.lt; omega
    · omega
end
theorem PL.push_cell {w0 w w' : World} {b0 Bp base n : Nat} {A : Option Addr} {c : Nat} {L : List Nat} {S : Nat → List Mv} (h : PL w0 w b0 Bp base n A c L S) (t : TypeId) {b : Nat}
    (hg : ((w.alloc (.map #[] 0)).alloc (.cells #[.map (some b)] t)).grownBy w' (Value.slice A L.length c).ownBlock) : w'.cell? ⟨Bp, 0, none⟩ = some (.slice A L.length c) ∧ w'.frozen? ⟨Bp, 0, none⟩ = false := by
  obtain ⟨l1, l2, l3⟩ := h.lt
  have hb2 : Below w.heap.size w ((w.alloc (.map #[] 0)).alloc (.cells #[.map (some b)] t)) := ((Below.refl _ _).alloc (Nat.le_refl _) _).alloc (by simp) _
  have hblt : ∀ k, (Value.slice A L.length c).ownBlock = some k → base ≤ k ∧ k < w.heap.size := fun k e => World.ownsRow.lt h.own k e
  have hBp : w'.heap[Bp]? = w.heap[Bp]? := (hg.block Bp (by simp; omega) (fun e => by have := hblt Bp e.symm; omega)).trans (hb2.block Bp (by omega))
  exact ⟨(World.cell?_of_block hBp).trans h.cell, by have := h.fr; simp only [World.frozen?] at this ⊢; rw [hBp]; exact this⟩
theorem PL.push_old {w0 w w' : World} {b0 Bp base n : Nat} {A : Option Addr} {c : Nat} {L : List Nat} {S : Nat → List Mv} (h : PL w0 w b0 Bp base n A c L S) (t : TypeId) {b B : Nat}
    (hg : ((w.alloc (.map #[] 0)).alloc (.cells #[.map (some b)] t)).grownBy w' (Value.slice A L.length c).ownBlock) (hB : B < w.heap.size) (hn : B < base ∨ (Value.slice A L.length c).ownBlock ≠ some B) : w'.heap[B]? = w.heap[B]? := by
  have hb2 : Below w.heap.size w ((w.alloc (.map #[] 0)).alloc (.cells #[.map (some b)] t)) := ((Below.refl _ _).alloc (Nat.le_refl _) _).alloc (by simp) _
  have hblt : ∀ k, (Value.slice A L.length c).ownBlock = some k → base ≤ k ∧ k < w.heap.size := fun k e => World.ownsRow.lt h.own k e
  exact (hg.block B (by simp; omega) (fun e => by rcases hn with hn | hn <;> first | (have := hblt B e.symm; omega) | exact hn e.symm)).trans (hb2.block B hB)
/-- the place after the nodes r, the last one first -/
def Plc (w0 w : World) (b0 Bp base : Nat) (r : List Nd) : Prop := ∃ (A : Option Addr) (c : Nat) (L : List Nat), (L.length : Int) = top r ∧ PL w0 w b0 Bp base r.length A c L (fun j => sibs r ((j : Int) + 1))
theorem Plc.next {w0 w w' : World} {b0 Bp base : Nat} {r : List Nd} (h : Plc w0 w b0 Bp base r) (hb : Below w.heap.size w w') : Plc w0 w' b0 Bp base r := by
  obtain ⟨A, c, L, h1, h2⟩ := h
  exact ⟨A, c, L, h1, h2.next hb⟩
theorem Plc.first (w0 w : World) (b0 : Nat) (t : TypeId) (hb : Below b0 w0 w) (h0 : b0 ≤ w.heap.size) : Plc w0 (w.alloc (.cells #[.slice none 0 0] t)) b0 w.heap.size (w.heap.size + 1) [] := by
  have h2 := heap_alloc_new w (.cells #[.slice none 0 0] t)
  refine ⟨none, 0, [], rfl, ⟨?_, ?_, owns_nil, fun j b hj => by simp at hj, fun i j b hi => by simp at hi, ⟨h0, by omega, by simp⟩, hb.alloc h0 _⟩⟩
  · rw [cell_of_row _ _ _ _ _ _ h2]; rfl
  · simp only [World.frozen?]; rw [h2]; rfl
end Go.Proofs.Yteaclphankckiaa
