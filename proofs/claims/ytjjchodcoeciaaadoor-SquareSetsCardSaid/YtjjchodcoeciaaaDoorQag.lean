/- Layer 1: the law on sets: its boxes, its early way out. -/
import Derived.Test.YtjjchodcoeciaaaDoorQae
import Derived.Test.YtjjchodcoeciaaaDoorQaf
import Derived.Sort.CutIn
import Derived.Lib.MinMax
namespace Go.Proofs.YtjjchodcoeciaaaDoor
open Go.RowKit
set_option linter.unusedSimpArgs false
set_option linter.unusedVariables false

/-- the last statement of a sequence, as one that something follows: so that a cut can be laid behind it -/
theorem wpIn_last {F : Fence} {n : Nat} {P : Program} {c : Code} {Q : Exit → Act → World → Prop} {a : Act} {w : World} (h : ∀ K : Act → World → Prop, (∀ a w, Q .normal a w → K a w) → c.wpIn F n P (Exit.then K (fun _ _ _ => False)) a w) : c.wpIn F n P Q a w :=
  wpIn_mono (h _ (fun _ _ h => h)) (fun e a w q => by cases e <;> first | exact q | exact q.elim)
theorem inBlock_both {id : Nat} {Q : Exit → Act → World → Prop} {e : Exit} {a : Act} {w : World} (he : e = .normal ∨ e = .exit id) (h : Q .normal a w) : Exit.inBlock id Q e a w := by
  rcases he with rfl | rfl
  · exact h
  · simp [Exit.inBlock, h]
theorem wpIn_monoA {F : Fence} {n : Nat} {P : Program} {c : Code} {Q : Exit → Act → World → Prop} {a : Act} {w : World} (R : Act → Exit → Act → World → Prop) (h : c.wpIn F n P (R a) a w) (hq : ∀ e a' w', R a e a' w' → Q e a' w') : c.wpIn F n P Q a w := wpIn_mono h hq
/-- the three boxes lie in W as they lay -/
structure SK (f r many : Int) (w W : World) : Prop where
  c0 : W.cell? ⟨w.heap.size, 0, none⟩ = some (.int .i64 f)
  c1 : W.cell? ⟨w.heap.size, 1, none⟩ = some (.int .i64 r)
  cm : W.cell? ⟨w.heap.size + 1, 0, none⟩ = some (.int .i64 many)
  cr : W.cell? ⟨w.heap.size + 1 + 1, 0, none⟩ = some (.bool false)
  fr : W.frozen? ⟨w.heap.size + 1 + 1, 0, none⟩ = false
  lt : w.heap.size + 1 + 1 < W.heap.size
  below : Below w.heap.size w W
theorem SK.next {f r many : Int} {w W W' : World} (h : SK f r many w W) (hb : Below W.heap.size W W') : SK f r many w W' := by
  have hlt := h.lt
  exact ⟨(hb.cell (p := ⟨w.heap.size, 0, none⟩) (by show w.heap.size < _; omega)).trans h.c0, (hb.cell (p := ⟨w.heap.size, 1, none⟩) (by show w.heap.size < _; omega)).trans h.c1, (hb.cell (p := ⟨w.heap.size + 1, 0, none⟩) (by show w.heap.size + 1 < _; omega)).trans h.cm, (hb.cell (p := ⟨w.heap.size + 1 + 1, 0, none⟩) hlt).trans h.cr, (hb.frozen (p := ⟨w.heap.size + 1 + 1, 0, none⟩) hlt).trans h.fr, Nat.lt_of_lt_of_le hlt hb.size, h.below.trans (hb.mono h.below.size)⟩
theorem SK.drew {f r many : Int} {w W : World} (h : SK f r many w W) : SK f r many w W.drew := ⟨h.c0, h.c1, h.cm, h.cr, h.fr, h.lt, h.below.drew⟩
theorem SK.drewN {f r many : Int} {w W : World} (h : SK f r many w W) (n : Nat) : SK f r many w (W.drewN n) := ⟨h.c0, h.c1, h.cm, h.cr, h.fr, h.lt, below_drewN h.below n⟩
theorem SK.first (f r many : Int) (w : World) (t t2 t4 : TypeId) : SK f r many w (((w.alloc (.cells #[.int .i64 f, .int .i64 r] t)).alloc (.cells #[.int .i64 many] t2)).alloc (.cells #[.bool false] t4)) := by
  have z1 : (w.alloc (.cells #[.int .i64 f, .int .i64 r] t)).heap.size = w.heap.size + 1 := World.size_alloc _ _
  have z2 : ((w.alloc (.cells #[.int .i64 f, .int .i64 r] t)).alloc (.cells #[.int .i64 many] t2)).heap.size = w.heap.size + 1 + 1 := by rw [World.size_alloc, z1]
  have h1 := heap_alloc_new w (.cells #[.int .i64 f, .int .i64 r] t)
  have h2 := heap_alloc_new (w.alloc (.cells #[.int .i64 f, .int .i64 r] t)) (.cells #[.int .i64 many] t2)
  have h4 := heap_alloc_new ((w.alloc (.cells #[.int .i64 f, .int .i64 r] t)).alloc (.cells #[.int .i64 many] t2)) (.cells #[.bool false] t4)
  rw [z1] at h2
  rw [z2] at h4
  refine ⟨?_, ?_, ?_, ?_, ?_, by rw [World.size_alloc, z2]; omega, (((Below.refl _ _).alloc (Nat.le_refl _) _).alloc (by omega) _).alloc (by omega) _⟩
  · rw [World.cell?_alloc_lt _ _ ⟨w.heap.size, 0, none⟩ (by show w.heap.size < _; omega), World.cell?_alloc_lt _ _ ⟨w.heap.size, 0, none⟩ (by show w.heap.size < _; omega), cell_of_row _ _ _ _ _ _ h1]; rfl
  · rw [World.cell?_alloc_lt _ _ ⟨w.heap.size, 1, none⟩ (by show w.heap.size < _; omega), World.cell?_alloc_lt _ _ ⟨w.heap.size, 1, none⟩ (by show w.heap.size < _; omega), cell_of_row _ _ _ _ _ _ h1]; rfl
  · rw [World.cell?_alloc_lt _ _ ⟨w.heap.size + 1, 0, none⟩ (by show w.heap.size + 1 < _; omega), cell_of_row _ _ _ _ _ _ h2]; rfl
  · rw [cell_of_row _ _ _ _ _ _ h4]; rfl
  · simp only [World.frozen?]
    rw [h4]
    rfl

set_option maxRecDepth 100000 in
set_option maxHeartbeats 1000000 in
theorem sets_long (f r : Int) (A : Option Addr) (n cap : Nat) (m : Int) (a many : Int) (w : World) (hT : TabAt w) (hl : 70 < n) (hm : n ≤ maxLen) :
    Calls Tryd.prog 9 #[.agg #[.int .i64 f, .int .i64 r], .slice A n cap, .int .u64 m, .int .i64 a, .int .i64 many] w fun e w' => e = .returned (.bool true) ∧ Below w.heap.size w w' := by
  unfold maxLen at hm
  have hTH := Lib.hid hT
  have hpos := hT.pos
  clear hT
  have hK := Lib.hid (SK.first f r many w 23 3 4)
  have cr := hK.out.cr
  have fr := hK.out.fr
  refine (callsIn_wide (n := 5)).1 ?_
  refine callsIn_of_wp_marks Tryd.func9 rfl trivial ?_ rfl
  simp only [Tryd.ntmps9, List.size_toArray, List.length_cons, List.length_nil, Nat.reduceAdd, Nat.reduceSub, Array.replicate_succ, Array.replicate_zero, List.push_toArray, List.append_toArray, List.nil_append, List.cons_append]
  gi_wp2_with (first
    | (refine ⟨trivial, ?_⟩; gi_at_call 16; refine (callsIn_wide.2 (known_1 _ (hTH.out.below hpos hK.out.below))).mono ?_; rintro e w' ⟨rfl, hb⟩; replace hK := Lib.hid (hK.out.next hb); replace cr := hK.out.cr; replace fr := hK.out.fr; clear hb)
    | (refine ⟨trivial, ?_⟩))
  exact ⟨_, by simp [results, Tryd.results9, go_sem, World.cell?_setCell_same', cr], rfl, hK.out.below.setCell (p := ⟨w.heap.size + 1 + 1, 0, none⟩) (by dsimp only; omega) _⟩

/-- whether the size and the first squares of a list are valid -/
def goodK (f r : Int) (l : List Int) (k : Nat) : Bool := szB f r && (l.take k).all (sqB f r ·)
theorem goodK_zero (f r : Int) (l : List Int) : goodK f r l 0 = szB f r := by simp [goodK]
theorem goodK_succ (f r : Int) (l : List Int) {k : Nat} (h : k < l.length) : goodK f r l (k + 1) = (goodK f r l k && sqB f r (l.getD k 0)) := by
  unfold goodK
  rw [take_snoc h, List.all_append, Bool.and_assoc]
  simp
theorem goodK_all {f r : Int} {l : List Int} (h : goodK f r l l.length = true) : szB f r = true ∧ ∀ j, j < l.length → sqB f r (l.getD j 0) = true := by
  unfold goodK at h
  rw [List.take_length, Bool.and_eq_true, List.all_eq_true] at h
  refine ⟨h.1, fun j hj => h.2 _ ?_⟩
  rw [List.getD_eq_getElem?_getD, List.getElem?_eq_getElem hj]
  exact List.getElem_mem hj
theorem goodK_not {f r : Int} {l : List Int} (h : goodK f r l l.length = false) : szB f r = false ∨ szB f r = true ∧ ¬ ∀ j, j < l.length → sqB f r (l.getD j 0) = true := by
  cases hs : szB f r
  · exact .inl rfl
  · refine .inr ⟨rfl, fun hh => ?_⟩
    have : goodK f r l l.length = true := by
      unfold goodK
      rw [List.take_length, hs, Bool.true_and, List.all_eq_true]
      intro x hx
      obtain ⟨j, hj, rfl⟩ := List.mem_iff_getElem.1 hx
      have := hh j hj
      rwa [List.getD_eq_getElem?_getD, List.getElem?_eq_getElem hj] at this
    rw [this] at h; cases h

theorem run_eql_func (g : Nat) (b : Nat) (w : World) : (binOp BinOp.eql 59 (.func (.func g) #[] #[.pointer (some ⟨b, 0, none⟩)]) .nilFunc).run Tryd.prog w = .ok (.bool false) w := by
  kernel_rfl
/-- the list of the set, and the set, lie in their boxes -/
structure SW (m : Nat) (AL : Option Addr) (cL Bw Bs : Nat) (W : World) : Prop where
  cw : W.cell? ⟨Bw, 0, none⟩ = some (.slice AL (LI m 64).length cL)
  cs : W.cell? ⟨Bs, 0, none⟩ = some (.int .u64 (m : Int))
  lw : Bw < W.heap.size
  ls : Bs < W.heap.size
  recs : RecAt iEnc 1 W W.heap.size AL (LI m 64)
theorem SW.next {m : Nat} {AL : Option Addr} {cL Bw Bs : Nat} {W W' : World} (h : SW m AL cL Bw Bs W) (hb : Below W.heap.size W W') : SW m AL cL Bw Bs W' :=
  ⟨(hb.cell (p := ⟨Bw, 0, none⟩) h.lw).trans h.cw, (hb.cell (p := ⟨Bs, 0, none⟩) h.ls).trans h.cs, Nat.lt_of_lt_of_le h.lw hb.size, Nat.lt_of_lt_of_le h.ls hb.size, (h.recs.below (Nat.le_refl _) hb).more hb.size⟩
theorem SW.first {m : Nat} {AL : Option Addr} {cL : Nat} {W : World} {t t2 : TypeId} (h : RecAt iEnc 1 W W.heap.size AL (LI m 64)) :
    SW m AL cL W.heap.size (W.heap.size + 1) ((W.alloc (.cells #[.slice AL (LI m 64).length cL] t)).alloc (.cells #[.int .u64 (m : Int)] t2)) := by
  have z1 : (W.alloc (.cells #[.slice AL (LI m 64).length cL] t)).heap.size = W.heap.size + 1 := World.size_alloc _ _
  have h1 := heap_alloc_new W (.cells #[.slice AL (LI m 64).length cL] t)
  have h2 := heap_alloc_new (W.alloc (.cells #[.slice AL (LI m 64).length cL] t)) (.cells #[.int .u64 (m : Int)] t2)
  rw [z1] at h2
  have hb : Below W.heap.size W ((W.alloc (.cells #[.slice AL (LI m 64).length cL] t)).alloc (.cells #[.int .u64 (m : Int)] t2)) := ((Below.refl _ _).alloc (Nat.le_refl _) _).alloc (by omega) _
  refine ⟨?_, ?_, by rw [World.size_alloc, z1]; omega, by rw [World.size_alloc, z1]; omega, (h.below (Nat.le_refl _) hb).more hb.size⟩
  · rw [World.cell?_alloc_lt _ _ ⟨W.heap.size, 0, none⟩ (by show W.heap.size < _; omega), cell_of_row _ _ _ _ _ _ h1]; rfl
  · rw [cell_of_row _ _ _ _ _ _ h2]; rfl

/-- the counter's cell, and all that lay before it -/
structure KC (Bk : Nat) (v : Int) (W0 W : World) : Prop where
  ck : W.cell? ⟨Bk, 0, none⟩ = some (.int .i64 v)
  fk : W.frozen? ⟨Bk, 0, none⟩ = false
  below : Below W0.heap.size W0 W
theorem KC.grown {Bk : Nat} {v : Int} {W0 A B : World} {row : Option Nat} (h : KC Bk v W0 A) (hg : A.grownBy B row) (hr : ∀ r, row = some r → W0.heap.size ≤ r ∧ ∃ o : Obj, A.heap[r]? = some o ∧ o.isCells = false) : KC Bk v W0 B :=
  ⟨cell_kept h.ck hg (fun r e => (hr r e).2), (frozen_kept h.ck hg (fun r e => (hr r e).2)).trans h.fk, h.below.grown hg h.below.size (fun k e => (hr k e).1)⟩
theorem KC.first (W : World) (v : Int) (t : TypeId) : KC W.heap.size v W (W.alloc (.cells #[.int .i64 v] t)) :=
  ⟨by rw [cell_of_row _ _ _ _ _ _ (heap_alloc_new W _)]; rfl, by simp only [World.frozen?]; rw [heap_alloc_new W _]; rfl, (Below.refl _ _).alloc (Nat.le_refl _) _⟩
theorem KC.lt {Bk : Nat} {v : Int} {W0 W : World} (h : KC Bk v W0 W) : Bk < W.heap.size := by
  rcases Nat.lt_or_ge Bk W.heap.size with hlt | hge
  · exact hlt
  · have := h.ck; simp [World.cell?, Array.getElem?_eq_none hge] at this
theorem KC.set {Bk : Nat} {v : Int} {W0 W : World} (h : KC Bk v W0 W) (hB : W0.heap.size ≤ Bk) (u : Int) : KC Bk u W0 (W.setCell ⟨Bk, 0, none⟩ (.int .i64 u)) :=
  ⟨World.cell?_setCell_same' _ _ _ (by rw [h.ck]; rfl), by rw [World.frozen?_setCell]; exact h.fk, h.below.setCell (p := ⟨Bk, 0, none⟩) hB _⟩
/-- in a loop over the squares: the counter counts them; in the first turn it has not come to the number that stops it -/
def IT (first : Bool) (many : Int) (Bk : Nat) (W0 : World) (pre : List Sq) (W : World) : Prop := KC Bk (pre.length : Int) W0 W ∧ (first = true → pre ≠ [] → (pre.length : Int) < many)
/-- the loop is left: by break, in the first turn; or with a square that is not the next one -/
def IX (m : Nat) (first : Bool) (many : Int) (Bk : Nat) (W0 : World) (c : Code) (pre : List Sq) (W : World) : Prop :=
  (c = .exit 4 ∧ first = true ∧ KC Bk (pre.length : Int) W0 W ∧ 1 ≤ pre.length ∧ many ≤ (pre.length : Int) ∧ (pre.length = 1 ∨ (pre.length : Int) - 1 < many)) ∨ (c = .ret ∧ ¬ (pre.map (·.1) <+: sqs m))
theorem own_IT (first : Bool) (many : Int) (Bk : Nat) (W0 : World) {B : Nat} (hB : W0.heap.size ≤ B) : OwnFrom B (IT first many Bk W0) := fun s A B' row hs hg hr =>
  ⟨hs.1.grown hg (fun r e => ⟨Nat.le_trans hB (hr r e).1, (hr r e).2⟩), hs.2⟩
theorem own_IX (m : Nat) (first : Bool) (many : Int) (Bk : Nat) (W0 : World) {B : Nat} (hB : W0.heap.size ≤ B) (c : Code) : OwnFrom B (IX m first many Bk W0 c) := fun s A B' row hs hg hr => by
  rcases hs with ⟨h1, h2, h3, h4⟩ | h
  · exact .inl ⟨h1, h2, h3.grown hg (fun r e => ⟨Nat.le_trans hB (hr r e).1, (hr r e).2⟩), h4⟩
  · exact .inr h
/-- the number of squares that a turn has seen -/
def turnK (first : Bool) (many : Int) (N : Nat) : Int := if first then min (N : Int) (max 1 many) else (N : Int)
theorem LI_len_sqs {m : Nat} (hm : m < 18446744073709551616) : (LI m 64).length = (sqs m).length := by rw [LI_sqs m hm, List.length_map]
theorem IT_done {m : Nat} {first : Bool} {many : Int} {Bk : Nat} {W0 W : World} {pre : List Sq} (h : IT first many Bk W0 pre W) (hp : pre.map (·.1) = sqs m) : KC Bk (turnK first many (sqs m).length) W0 W := by
  have hl : pre.length = (sqs m).length := by rw [← hp, List.length_map]
  have e : turnK first many (sqs m).length = (pre.length : Int) := by
    unfold turnK
    rw [← hl]
    cases first
    · rfl
    · rw [if_pos rfl]
      rcases Nat.eq_zero_or_pos pre.length with h0 | h0
      · rw [h0]; omega
      · have := h.2 rfl (by intro e; rw [e] at h0; cases h0)
        omega
  rw [e]; exact h.1
theorem IX_exit {m : Nat} {first : Bool} {many : Int} {Bk : Nat} {W0 W : World} {c : Code} {pre : List Sq} (h : IX m first many Bk W0 c pre W) (hp : pre.map (·.1) <+: sqs m) : c = .exit 4 ∧ KC Bk (turnK first many (sqs m).length) W0 W := by
  rcases h with ⟨h1, h2, h3, h4, h5, h6⟩ | ⟨_, h⟩
  · refine ⟨h1, ?_⟩
    have hl : pre.length ≤ (sqs m).length := by have := hp.length_le; rwa [List.length_map] at this
    have e : turnK first many (sqs m).length = (pre.length : Int) := by
      unfold turnK
      rw [h2, if_pos rfl]
      omega
    rw [e]; exact h3
  · exact absurd hp h
theorem bad_pre {m : Nat} {pre : List Sq} {x : Sq} {k : Nat} (hk : k = pre.length) (h : (sqs m).getD k 0 ≠ x.1) : ¬ ((pre ++ [x]).map (·.1) <+: sqs m) := by
  rintro ⟨t, ht⟩
  apply h
  rw [← ht, List.map_append, List.append_assoc, hk, List.getD_eq_getElem?_getD, List.getElem?_append_right (by simp)]
  simp
theorem want_at {m : Nat} (hm : m < 18446744073709551616) {k : Nat} (hk : k < (sqs m).length) : (LI m 64)[k]? = some (((sqs m).getD k 0 : Nat) : Int) := by
  rw [LI_sqs m hm, List.getElem?_map, List.getElem?_eq_getElem hk, List.getD_eq_getElem?_getD, List.getElem?_eq_getElem hk]
  rfl
end Go.Proofs.YtjjchodcoeciaaaDoor
