/- The frame of the cards of layer 27: the kinds out of the row's condition, the library's own variable out of the world's shape; boards, atoms and fairy pieces that came in. -/
import Derived.Test.YtbcdimklblpdnaaDoorRows
import Derived.Test.YtbcdimklblpdnaaDoorZo
import Derived.WalkKit
import Derived.ProofKit
import Derived.OpenShut
import Derived.LaidMore
import Derived.Stop.Joined
import Derived.Carry
import Derived.Handed
import Derived.Lay
import Derived.Shelf.Vars
import Derived.Deep.Slices
import Derived.Deep.Fields
namespace Go.Proofs.YtbcdimklblpdnaaDoor
open Go.RowKit
set_option linter.unusedSimpArgs false
set_option linter.unusedVariables false

/-- the value of cell i of a datum of plain parts -/
def cellAt {H : Type} (P : Program) : Nat → TypeId → DataW H → Nat → Option Value
  | 0, _, _, _ => none
  | n + 1, t, d, i =>
    match P.underlying t, d with
    | some (.int _), .lit (.int k m) => if i = 0 then some (.int k m) else none
    | some .bool, .lit (.bool b) => if i = 0 then some (.bool b) else none
    | some .string, .lit (.string bs) => if i = 0 then some (.string ⟨bs.toArray⟩) else none
    | some (.struct fs), .agg ds => (fs.toList.zip ds).findSome? fun x => if x.1.offset ≤ i ∧ i < x.1.offset + P.cellsOf x.1.type then cellAt P n x.1.type x.2 (i - x.1.offset) else none
    | some (.array c e), .agg ds => if i / P.cellsOf e < c ∧ 0 < P.cellsOf e then (ds[i / P.cellsOf e]?).bind fun d => cellAt P n e d (i % P.cellsOf e) else none
    | _, _ => none

theorem get_take_drop {α : Type} {l : List α} {a b i : Nat} {v : α} (h : ((l.drop a).take b)[i]? = some v) : l[a + i]? = some v := by
  rw [List.getElem?_take] at h
  split at h
  · rwa [List.getElem?_drop] at h
  · cases h

theorem cellAt_of {H : Type} {enc : TypeId × Value → H} {P : Program} {w : World} {base : Nat} {spare : Nat → Bool} {held : Bool} : ∀ (n : Nat) (fuel : Nat) (t : TypeId) (cs : List Value) (d : DataW H) (ps : List MemPlace) (i : Nat) (v : Value),
    DataW.trod enc P w base spare held fuel t cs = some (d, ps) → cellAt P n t d i = some v → cs[i]? = some v := by
  intro n
  induction n with
  | zero => intro fuel t cs d ps i v _ h; simp [cellAt] at h
  | succ n ih =>
    intro fuel t cs d ps i v h hc
    unfold cellAt at hc
    split at hc
    · rename_i k' k m hu
      split at hc
      · obtain ⟨r, rfl, e, _⟩ := DataW.trod_int hu h
        simp only [Prod.mk.injEq, DataW.lit.injEq, Lit.int.injEq] at e
        obtain ⟨⟨rfl, rfl⟩, _⟩ := e
        subst_vars; simpa using hc
      · cases hc
    · rename_i b hu
      split at hc
      · obtain ⟨r, rfl, e⟩ := DataW.trod_bool hu h
        simp only [Prod.mk.injEq, DataW.lit.injEq, Lit.bool.injEq] at e
        obtain ⟨rfl, _⟩ := e
        subst_vars; simpa using hc
      · cases hc
    · rename_i bs hu
      split at hc
      · obtain ⟨r, rfl, e, _⟩ := DataW.trod_string hu h
        simp only [Prod.mk.injEq, DataW.lit.injEq, Lit.string.injEq] at e
        obtain ⟨rfl, _⟩ := e
        subst_vars; simpa using hc
      · cases hc
    · rename_i fs ds hu
      obtain ⟨xs, m, rfl, e, hl, hx, hf⟩ := DataW.trod_struct hu h
      simp only [Prod.mk.injEq, DataW.agg.injEq] at e
      obtain ⟨rfl, _⟩ := e
      obtain ⟨x, hm, hs⟩ := List.exists_of_findSome?_eq_some hc
      split at hs
      · rename_i hr
        obtain ⟨j, hj⟩ := List.mem_iff_getElem?.1 hm
        rw [List.getElem?_zip_eq_some] at hj
        obtain ⟨h1, h2⟩ := hj
        rw [List.getElem?_map, Option.map_eq_some_iff] at h2
        obtain ⟨y, hy, hy2⟩ := h2
        have := hf j x.1 (by simpa using h1)
        rw [hy] at this
        have h3 := ih m x.1.type _ y.1 y.2 (i - x.1.offset) v this (by rw [hy2]; exact hs)
        have h4 := get_take_drop h3
        rwa [show x.1.offset + (i - x.1.offset) = i by omega] at h4
      · cases hs
    · rename_i c e ds hu
      obtain ⟨xs, m, rfl, ee, hl, hx, hf⟩ := DataW.trod_array hu h
      simp only [Prod.mk.injEq, DataW.agg.injEq] at ee
      obtain ⟨rfl, _⟩ := ee
      split at hc
      · rename_i hr
        rw [Option.bind_eq_some_iff] at hc
        obtain ⟨d', hd', hc⟩ := hc
        rw [List.getElem?_map, Option.map_eq_some_iff] at hd'
        obtain ⟨y, hy, rfl⟩ := hd'
        have := hf (i / P.cellsOf e) hr.1
        rw [hy] at this
        have h3 := ih m e _ y.1 y.2 (i % P.cellsOf e) v this hc
        have h4 := get_take_drop h3
        rwa [show i / P.cellsOf e * P.cellsOf e + i % P.cellsOf e = i by rw [Nat.mul_comm]; exact Nat.div_add_mod i _] at h4
      · cases hc
    · cases hc
end Go.Proofs.YtbcdimklblpdnaaDoor
namespace Go.Proofs.YtbcdimklblpdnaaDoor
open Go Go.ChangeShapes Go.WideShapes Go.Deep
set_option linter.unusedSimpArgs false
set_option linter.unusedVariables false

theorem addr_plain {w : World} {a : Addr} {v : Value} (h : w.cell? a = some v) : a = ⟨a.block, a.off, none⟩ := by
  obtain ⟨b, o, k⟩ := a
  cases k with
  | none => rfl
  | some k =>
    simp [World.cell?] at h
    split at h <;> cases h
theorem cell_lt {w : World} {a : Addr} {v : Value} (h : w.cell? a = some v) : a.block < w.heap.size := by
  rcases Nat.lt_or_ge a.block w.heap.size with hlt | hge
  · exact hlt
  · have hn : w.heap[a.block]? = none := Array.getElem?_eq_none hge
    obtain ⟨b, o, k⟩ := a
    simp only at hn
    cases k <;> simp [World.cell?, hn] at h

section
variable {H : Type} {enc : TypeId × Value → H} {P : Program} {w : World} {base : Nat} {spare : Nat → Bool} {held : Bool}
/-- a struct of integer fields, read: its cells -/
theorem struct_ints {e : TypeId} {fs : Array Field} {ks : Nat → IntKind} {fuel : Nat} {cs : List Value} {x : DataW H × List MemPlace} (he : P.underlying e = some (.struct fs))
    (hone : oneCellFields P fs = true) (hint : ∀ j f, fs[j]? = some f → P.underlying f.type = some (.int (ks j))) (h : DataW.trod enc P w base spare held fuel e cs = some x) :
    ∃ X : Nat → Int, ∀ j, j < fs.size → cs[j]? = some (.int (ks j) (X j)) ∧ (Lit.int (ks j) (X j)).wf = true := by
  obtain ⟨xs, m, rfl, ee, hl, hx, hf⟩ := DataW.trod_struct he h
  refine choose_lt (α := Int) (p := fun j n => cs[j]? = some (.int (ks j) n) ∧ (Lit.int (ks j) n).wf = true) (n := fs.size) (fun j hj => ?_)
  have hfj : fs[j]? = some fs[j] := Array.getElem?_eq_getElem hj
  obtain ⟨ho, hk⟩ := hone_of hone j fs[j] hfj
  have h1 := hf j fs[j] hfj
  have hjx : j < xs.length := by rw [hx]; exact hj
  rw [ho, hk, List.getElem?_eq_getElem hjx] at h1
  obtain ⟨r, hc, _, hw⟩ := DataW.trod_int (hint j fs[j] hfj) h1
  refine ⟨r, ?_, hw⟩
  have h2 : ((cs.drop j).take 1)[0]? = some (.int (ks j) r) := by rw [hc]; rfl
  rw [List.getElem?_take, if_pos (by omega), List.getElem?_drop] at h2
  simpa using h2

/-- a slice of structs of integer fields -/
theorem slice_structs {r : Reach} {b0 : Nat} {t e : TypeId} {fs : Array Field} {ks : Nat → IntKind} {v : Value} {d : DataW H} {ps : List MemPlace} (ht : P.underlying t = some (.slice e)) (he : P.underlying e = some (.struct fs))
    (hone : oneCellFields P fs = true) (hC : P.cellsOf e = fs.size) (hint : ∀ j f, fs[j]? = some f → P.underlying f.type = some (.int (ks j))) (h0 : 0 < fs.size)
    (hval : Value.okWide P w r b0 t v) (h : DataW.Trod enc P w base spare held t v d ps) :
    ∃ (A : Option Addr) (n c : Nat) (X : Nat → Nat → Int), v = .slice A n c ∧ n ≤ c ∧ c ≤ maxLen ∧
      (0 < n → ∃ b off, A = some ⟨b, off, none⟩ ∧ b < w.heap.size ∧ ∀ i, i < n → ∀ j, j < fs.size → w.cell? ⟨b, off + i * fs.size + j, none⟩ = some (.int (ks j) (X i j)) ∧ (Lit.int (ks j) (X i j)).wf = true) := by
  obtain ⟨a0, l0, c0, rfl⟩ := okWide_slice ht hval
  obtain ⟨fuel, hf⟩ := h
  rcases open_slice ht hf with ⟨hcs, hx⟩ | ⟨a, len, cap, m, n, D, Pl, hcs, hb, hl, hm, hmm, hx, hi⟩
  · simp [Value.cells] at hcs
    obtain ⟨rfl, rfl, rfl⟩ := hcs
    exact ⟨none, 0, 0, fun _ _ => 0, rfl, Nat.le_refl _, Nat.zero_le _, fun h => absurd h (by omega)⟩
  · simp [Value.cells] at hcs
    obtain ⟨rfl, rfl, rfl⟩ := hcs
    have hlm : l0 ≤ m := by rw [hmm]; split <;> omega
    obtain ⟨X, hX⟩ := choose_lt (α := Nat → Int) (n := l0) (p := fun i x => ∀ j, j < fs.size → w.cell? (a.add (i * fs.size + j)) = some (.int (ks j) (x j)) ∧ (Lit.int (ks j) (x j)).wf = true) (fun i hil => by
      obtain ⟨cs', h1, h2⟩ := hi i (by omega)
      obtain ⟨X, hX⟩ := struct_ints he hone hint h2
      obtain ⟨_, hlen, hat⟩ := World.cells?_some h1
      refine ⟨X, fun j hj => ⟨?_, (hX j hj).2⟩⟩
      have h3 := hat j (by rw [hC]; exact hj)
      rw [(hX j hj).1, hC, add_add] at h3
      exact h3)
    refine ⟨some a, l0, c0, X, rfl, hl, hm, fun h0' => ?_⟩
    have hc0 := (hX 0 h0' 0 h0).1
    have hp : a = ⟨a.block, a.off, none⟩ := by
      have := addr_plain (a := a) (w := w) (by simpa [Addr.add] using hc0)
      exact this
    have hlt : a.block < w.heap.size := by
      have := cell_lt (a := a) (w := w) (by simpa [Addr.add] using hc0)
      exact this
    refine ⟨a.block, a.off, by rw [← hp], hlt, fun i hi' j hj => ⟨?_, (hX i hi' j hj).2⟩⟩
    have h4 := (hX i hi' j hj).1
    rw [hp] at h4
    have e : (⟨a.block, a.off, none⟩ : Addr).add (i * fs.size + j) = ⟨a.block, a.off + i * fs.size + j, none⟩ := by
      unfold Addr.add
      split
      · rename_i h5; simp only [Addr.mk.injEq, and_true, true_and]; omega
      · simp only [Addr.mk.injEq, and_true, true_and]; omega
    rwa [e] at h4

/-- a slice of integers -/
theorem slice_ints {r : Reach} {b0 : Nat} {t e : TypeId} {k : IntKind} {v : Value} {d : DataW H} {ps : List MemPlace} (ht : P.underlying t = some (.slice e)) (he : P.underlying e = some (.int k))
    (hC : P.cellsOf e = 1) (hval : Value.okWide P w r b0 t v) (h : DataW.Trod enc P w base spare held t v d ps) :
    ∃ (A : Option Addr) (n c : Nat) (X : Nat → Int), v = .slice A n c ∧ n ≤ c ∧ c ≤ maxLen ∧
      (0 < n → ∃ b off, A = some ⟨b, off, none⟩ ∧ b < w.heap.size ∧ ∀ i, i < n → w.cell? ⟨b, off + i, none⟩ = some (.int k (X i)) ∧ (Lit.int k (X i)).wf = true) := by
  obtain ⟨a0, l0, c0, rfl⟩ := okWide_slice ht hval
  obtain ⟨fuel, hf⟩ := h
  rcases open_slice ht hf with ⟨hcs, hx⟩ | ⟨a, len, cap, m, n, D, Pl, hcs, hb, hl, hm, hmm, hx, hi⟩
  · simp [Value.cells] at hcs
    obtain ⟨rfl, rfl, rfl⟩ := hcs
    exact ⟨none, 0, 0, fun _ => 0, rfl, Nat.le_refl _, Nat.zero_le _, fun h => absurd h (by omega)⟩
  · simp [Value.cells] at hcs
    obtain ⟨rfl, rfl, rfl⟩ := hcs
    have hlm : l0 ≤ m := by rw [hmm]; split <;> omega
    obtain ⟨X, hX⟩ := choose_lt (α := Int) (n := l0) (p := fun i x => w.cell? (a.add i) = some (.int k x) ∧ (Lit.int k x).wf = true) (fun i hil => by
      obtain ⟨cs', h1, h2⟩ := hi i (by omega)
      obtain ⟨x, hc, _, hw⟩ := DataW.trod_int he h2
      obtain ⟨_, hlen, hat⟩ := World.cells?_some h1
      refine ⟨x, ?_, hw⟩
      have h3 := hat 0 (by omega)
      rw [hc, hC, add_add, Nat.mul_one, Nat.add_zero] at h3
      exact h3)
    refine ⟨some a, l0, c0, X, rfl, hl, hm, fun h0' => ?_⟩
    have hc0 := (hX 0 h0').1
    have hp : a = ⟨a.block, a.off, none⟩ := by
      have := addr_plain (a := a) (w := w) (by simpa [Addr.add] using hc0)
      exact this
    have hlt : a.block < w.heap.size := by
      have := cell_lt (a := a) (w := w) (by simpa [Addr.add] using hc0)
      exact this
    refine ⟨a.block, a.off, by rw [← hp], hlt, fun i hi' => ⟨?_, (hX i hi').2⟩⟩
    have h4 := (hX i hi').1
    rw [hp] at h4
    have e : (⟨a.block, a.off, none⟩ : Addr).add i = ⟨a.block, a.off + i, none⟩ := by
      unfold Addr.add
      split
      · rename_i h5; simp only [Addr.mk.injEq, and_true, true_and]; omega
      · rfl
    rwa [e] at h4
end
end Go.Proofs.YtbcdimklblpdnaaDoor
namespace Go.Proofs.YtbcdimklblpdnaaDoor
open Go Go.ChangeShapes Go.WideShapes Go.ChangeAt Go.RowKit
set_option linter.unusedVariables false
set_option linter.unusedSimpArgs false

section
variable {H : Type} {enc : TypeId × Value → H}
/-- as the kit's rule for a row with a further condition; the world's shape is handed on -/
theorem handed_open {a : Assume} {C : Checked} {os : Os} {f : FuncId} {fn : Func} {s : ChangeSpec} {conds : List PathCond} {apart fresh handsOn again : Bool} {X : World → Array Value → Prop}
    (hX : ∀ (w w' : World) (args : Array Value), w.heap = w'.heap → X w args → X w' args)
    (own : ownKnob C.prog.godebug = none) (started : os.Started) (noInit : C.prog.inits.idxOf? f = none) (hfn : C.prog.funcs[f]? = some fn)
    (witness : ∃ (w : World) (tape : Tape) (i : Input), w.os = os ∧ (w.forCall tape i).Shaped C.prog ∧ i.vars = [] ∧ Input.okWide C.prog (w.forCall tape i) .any w.heap.size f i ∧
      ((s.pre enc C.prog fn conds apart (w.forCall tape i).memory i.args ∧ X (w.forCall tape i).memory i.args) ∧ sizedMet enc C.prog fn (OpenSpec.ofChange s) apart (w.forCall tape i).memory i.args) ∧ a.holds C.prog (lone (Frame.enter C.prog f i.args .normal) [] (w.forCall tape i)))
    (walk : ∀ (W : World), W.ShapedOpen C.prog → ∀ (base : Nat) (args : Array Value) (ds gs : List (DataW H)) (before : List MemPlace),
      (∀ (j : Nat) t v, fn.params[j]? = some t → args[j]? = some v → Value.okWide C.prog W .any base t v) →
      DataW.Whole enc C.prog fn.params.toList s.vars apart W args.toList ds gs before → X W args →
      Calls C.prog f args W fun e W' => ∃ v, e = .returned v ∧ s.post enc C.prog fn apart fresh handsOn again W args v W') :
    ReturnsInHanded a C os f .any (fun w args => (s.pre enc C.prog fn conds apart w args ∧ X w args) ∧ sizedMet enc C.prog fn (OpenSpec.ofChange s) apart w args) (s.post enc C.prog fn apart fresh handsOn again) := by
  refine returnsInHanded_of_calls own started noInit witness fun w tape i _ hso _ hok hpre _ => ?_
  obtain ⟨_, _, _, fn', hfn', _, _, _, _, hval⟩ := hok
  obtain rfl : fn' = fn := Option.some.inj (hfn'.symm.trans hfn)
  obtain ⟨⟨⟨ds, gs, before, hw, _⟩, hx⟩, _⟩ := hpre
  refine (walk (w.forCall tape i) hso w.heap.size i.args ds gs before hval (DataW.Whole.of_heap (w' := w.forCall tape i) (by rfl) hw) (hX _ _ _ (by rfl) hx)).mono fun e W' ⟨v, he, hp⟩ => ?_
  subst he
  exact ChangeSpec.post_blind hp
end

theorem own : ownKnob Tryd.prog.godebug = none := by kernel_rfl
theorem gKinds : Tryd.prog.globalNamed "caissa/piece.kinds" = some 0 := by kernel_rfl
theorem tKinds : (Tryd.prog.globals[0]?).map (·.type) = some 96 := by kernel_rfl
theorem kinds_cells : ∀ k, k < 15 → cellAt (H := Unit) Tryd.prog 3 96 Rows.laid_caissa_piece_kinds (k * 3) = some (.int .u8 (PC.letAt k)) ∧
    cellAt (H := Unit) Tryd.prog 3 96 Rows.laid_caissa_piece_kinds (k * 3 + 1) = some (.int .i64 (PC.valAt k)) ∧
    cellAt (H := Unit) Tryd.prog 3 96 Rows.laid_caissa_piece_kinds (k * 3 + 2) = some (.string ⟨(PC.namAt k).toArray⟩) := by
  intro k h
  obtain rfl | rfl | rfl | rfl | rfl | rfl | rfl | rfl | rfl | rfl | rfl | rfl | rfl | rfl | rfl : k = 0 ∨ k = 1 ∨ k = 2 ∨ k = 3 ∨ k = 4 ∨ k = 5 ∨ k = 6 ∨ k = 7 ∨ k = 8 ∨ k = 9 ∨ k = 10 ∨ k = 11 ∨ k = 12 ∨ k = 13 ∨ k = 14 := by omega
  all_goals exact ⟨by kernel_rfl, by kernel_rfl, by kernel_rfl⟩

/-- what lies in the world when a call begins -/
structure EnvF (w : World) : Prop where
  m : ∃ m0, MX w m0
  k : PC.KindsAt w
  g : 0 < w.heap.size
theorem EnvF.next {w w' : World} (h : EnvF w) (hb : Below w.heap.size w w') : EnvF w' := by
  obtain ⟨m0, hm⟩ := h.m
  exact ⟨⟨m0, hm.next hb⟩, h.k.below h.g hb, Nat.lt_of_lt_of_le h.g hb.size⟩
theorem env_of {W : World} (hk : ∀ k, k < 15 → W.cell? ⟨0, k * 3, none⟩ = some (.int .u8 (PC.letAt k)) ∧ W.cell? ⟨0, k * 3 + 1, none⟩ = some (.int .i64 (PC.valAt k)) ∧ W.cell? ⟨0, k * 3 + 2, none⟩ = some (.string ⟨(PC.namAt k).toArray⟩)) (hO : W.ShapedOpen Tryd.prog) : EnvF W := by
  obtain ⟨m, hm⟩ : ∃ m, W.cell? ⟨1, 0, none⟩ = some (.int .i64 m) := cell_of_shapedOpen_int (zero := #[.int .i64 0]) (t := 3) hO (of_decide_eq_true (by kernel_rfl)) (by kernel_rfl) rfl (by kernel_rfl) (by kernel_rfl) Tryd.underlying3
  have h0 := (hk 0 (by decide)).1
  have hlt : 0 < W.heap.size := cell_lt (a := ⟨0, 0, none⟩) (by simpa using h0)
  refine ⟨⟨m, hm, cell_lt (a := ⟨1, 0, none⟩) hm⟩, ⟨fun k h => (hk k h).1, fun k h => (hk k h).2.1, fun k h => (hk k h).2.2, ?_⟩, hlt⟩
  omega
/-- what the rows list -/
def theLaid : List (String × DataW Unit) := [("caissa/piece.kinds", Rows.laid_caissa_piece_kinds), ("unicode/utf8.acceptRanges", Rows.laid_unicode_utf8_acceptRanges), ("unicode/utf8.first", Rows.laid_unicode_utf8_first)]
theorem lay_met (os : Os) (args : Array Value) : laidMetH Tryd.prog theLaid ((World.laidAll Tryd.prog os theLaid).forCall (fun _ _ => 0) ⟨#[], args, []⟩).memory := by
  rw [MakeChecks.laidMetH_plain _ _ _ (by kernel_rfl)]
  exact laidMet_laidAll _ (by kernel_rfl) (by kernel_rfl)
theorem of_laid {W : World} (h : laidMetH Tryd.prog theLaid W) (hO : W.ShapedOpen Tryd.prog) : EnvF W := by
  rw [MakeChecks.laidMetH_plain _ _ _ (by kernel_rfl)] at h
  obtain ⟨ps, ⟨g0, t0, cs0, f0, p0, q0, hg0, ht0, hv0, hd0, _, _⟩, _, _⟩ := h
  obtain rfl := Option.some.inj (gKinds.symm.trans hg0)
  obtain rfl := Option.some.inj (tKinds.symm.trans ht0)
  have hc : ∀ i v, cellAt (H := Unit) Tryd.prog 3 96 Rows.laid_caissa_piece_kinds i = some v → W.cell? ⟨0, i, none⟩ = some v := fun i v hi => by
    have h1 := World.var?_cell hg0 hv0 i
    have h2 := cellAt_of 3 _ _ _ _ _ i v hd0 hi
    rw [h1]
    simpa using h2
  exact env_of (fun k h => ⟨hc _ _ (kinds_cells k h).1, hc _ _ (kinds_cells k h).2.1, hc _ _ (kinds_cells k h).2.2⟩) hO
theorem wf_i8 {n : Int} (h : (Lit.int .i8 n).wf = true) : -128 ≤ n ∧ n ≤ 127 := by
  unfold Lit.wf at h
  rw [Bool.and_eq_true, decide_eq_true_eq, decide_eq_true_eq] at h
  rw [show IntKind.i8.min = -128 by rfl, show IntKind.i8.max = 127 by rfl] at h
  exact h
section
variable {H : Type} {enc : TypeId × Value → H} {P : Program} {w : World} {base : Nat} {spare : Nat → Bool} {held : Bool}
open Go.Deep
/-- the cells of a slice of integers -/
theorem cells_ints {t e : TypeId} {k : IntKind} {cs : List Value} {x : DataW H × List MemPlace} {fuel : Nat} (ht : P.underlying t = some (.slice e)) (he : P.underlying e = some (.int k))
    (hC : P.cellsOf e = 1) (hf : DataW.trod enc P w base spare held fuel t cs = some x) :
    ∃ (A : Option Addr) (n c : Nat) (X : Nat → Int), cs = [.slice A n c] ∧ n ≤ c ∧ c ≤ maxLen ∧
      (0 < n → ∃ b off, A = some ⟨b, off, none⟩ ∧ b < w.heap.size ∧ ∀ i, i < n → w.cell? ⟨b, off + i, none⟩ = some (.int k (X i)) ∧ (Lit.int k (X i)).wf = true) := by
  rcases open_slice ht hf with ⟨hcs, hx⟩ | ⟨a, l0, c0, m, n, D, Pl, hcs, hb, hl, hm, hmm, hx, hi⟩
  · exact ⟨none, 0, 0, fun _ => 0, hcs, Nat.le_refl _, Nat.zero_le _, fun h => absurd h (by omega)⟩
  · have hlm : l0 ≤ m := by rw [hmm]; split <;> omega
    obtain ⟨X, hX⟩ := choose_lt (α := Int) (n := l0) (p := fun i x => w.cell? (a.add i) = some (.int k x) ∧ (Lit.int k x).wf = true) (fun i hil => by
      obtain ⟨cs', h1, h2⟩ := hi i (by omega)
      obtain ⟨x, hc, _, hw⟩ := DataW.trod_int he h2
      obtain ⟨_, hlen, hat⟩ := World.cells?_some h1
      refine ⟨x, ?_, hw⟩
      have h3 := hat 0 (by omega)
      rw [hc, hC, add_add, Nat.mul_one, Nat.add_zero] at h3
      exact h3)
    refine ⟨some a, l0, c0, X, hcs, hl, hm, fun h0' => ?_⟩
    have hc0 := (hX 0 h0').1
    have hp : a = ⟨a.block, a.off, none⟩ := by
      have := addr_plain (a := a) (w := w) (by simpa [Addr.add] using hc0)
      exact this
    have hlt : a.block < w.heap.size := by
      have := cell_lt (a := a) (w := w) (by simpa [Addr.add] using hc0)
      exact this
    refine ⟨a.block, a.off, by rw [← hp], hlt, fun i hi' => ⟨?_, (hX i hi').2⟩⟩
    have h4 := (hX i hi').1
    rw [hp] at h4
    have e : (⟨a.block, a.off, none⟩ : Addr).add i = ⟨a.block, a.off + i, none⟩ := by
      unfold Addr.add
      split
      · rename_i h5; simp only [Addr.mk.injEq, and_true, true_and]; omega
      · rfl
    rwa [e] at h4
end
section
variable {H : Type} {enc : TypeId × Value → H} {P : Program} {w : World} {base : Nat} {spare : Nat → Bool} {held : Bool}
open Go.Deep
/-- a slice whose elements read as records -/
theorem cells_recs {α : Type} [Inhabited α] {E : α → List Value} {Q : α → Prop} {t e : TypeId} {cs0 : List Value} {x0 : DataW H × List MemPlace} {fuel : Nat} (ht : P.underlying t = some (.slice e))
    (hl : ∀ x, (E x).length = P.cellsOf e) (hE : ∀ m cs x, DataW.trod enc P w base spare held m e cs = some x → ∃ y, cs = E y ∧ Q y) (hp0 : 0 < P.cellsOf e)
    (hf : DataW.trod enc P w base spare held fuel t cs0 = some x0) :
    ∃ (A : Option Addr) (n c : Nat) (X : Nat → α), cs0 = [.slice A n c] ∧ n ≤ c ∧ c ≤ maxLen ∧ (∀ i, i < n → Q (X i)) ∧
      (0 < n → ∃ b off, A = some ⟨b, off, none⟩ ∧ b < w.heap.size ∧ ∀ i, i < n → ∀ j u, (E (X i))[j]? = some u → w.cell? ⟨b, off + i * P.cellsOf e + j, none⟩ = some u) := by
  rcases open_slice ht hf with ⟨hcs, hx⟩ | ⟨a, l0, c0, m, n, D, Pl, hcs, hb, hl0, hm, hmm, hx, hi⟩
  · exact ⟨none, 0, 0, fun _ => default, hcs, Nat.le_refl _, Nat.zero_le _, fun i hi => absurd hi (by omega), fun h => absurd h (by omega)⟩
  · have hlm : l0 ≤ m := by rw [hmm]; split <;> omega
    obtain ⟨X, hX⟩ := choose_lt (α := α) (n := l0) (p := fun i x => Q x ∧ ∀ j u, (E x)[j]? = some u → w.cell? (a.add (i * P.cellsOf e + j)) = some u) (fun i hil => by
      obtain ⟨cs', h1, h2⟩ := hi i (by omega)
      obtain ⟨y, hy, hq⟩ := hE _ _ _ h2
      obtain ⟨_, hlen, hat⟩ := World.cells?_some h1
      refine ⟨y, hq, fun j u hu => ?_⟩
      have hj : j < (E y).length := (List.getElem?_eq_some_iff.1 hu).1
      have h3 := hat j (by rw [hl] at hj; exact hj)
      rw [hy, hu, add_add] at h3
      exact h3)
    refine ⟨some a, l0, c0, X, hcs, hl0, hm, fun i hi' => (hX i hi').1, fun h0' => ?_⟩
    have he0 : 0 < (E (X 0)).length := by rw [hl]; exact hp0
    have hc0 := (hX 0 h0').2 0 _ (List.getElem?_eq_getElem he0)
    have hp : a = ⟨a.block, a.off, none⟩ := by
      have := addr_plain (a := a) (w := w) (by simpa [Addr.add] using hc0)
      exact this
    have hlt : a.block < w.heap.size := by
      have := cell_lt (a := a) (w := w) (by simpa [Addr.add] using hc0)
      exact this
    refine ⟨a.block, a.off, by rw [← hp], hlt, fun i hi' j u hu => ?_⟩
    have h4 := (hX i hi').2 j u hu
    rw [hp] at h4
    have e : (⟨a.block, a.off, none⟩ : Addr).add (i * P.cellsOf e + j) = ⟨a.block, a.off + i * P.cellsOf e + j, none⟩ := by
      unfold Addr.add
      split
      · rename_i h5; simp only [Addr.mk.injEq, and_true, true_and]; omega
      · simp only [Addr.mk.injEq, and_true, true_and]; omega
    rwa [e] at h4
end

set_option maxRecDepth 100000 in
theorem open_board {H : Type} {enc : TypeId × Value → H} {W : World} {r : Reach} {b0 : Nat} {v : Value} {d : DataW H} {ps : List MemPlace} (hval : Value.okWide Tryd.prog W r b0 48 v)
    (h : DataW.Trod enc Tryd.prog W 0 (fun _ => true) true 48 v d ps) : ∃ (f r : Int) (A : Option Addr) (l : List Int) (c : Nat), v = bdV f r A (List.length l) c ∧ RecAt pEnc 1 W W.heap.size A l ∧ l.length ≤ maxLen ∧ ∀ p, p ∈ l → -128 ≤ p ∧ p ≤ 127 := by
  obtain ⟨cs, rfl, hsz⟩ := okWide_struct Tryd.underlying48 hval
  obtain ⟨fuel, h⟩ := h
  obtain ⟨y0, y1, n, _, _, h0, h1⟩ := trod_struct2 Tryd.underlying48 h
  obtain ⟨X, hX⟩ := struct_ints (ks := fun _ => .i64) Tryd.underlying45 (by kernel_rfl) (fun j f hj => by
    match j, hj with
    | 0, hj => obtain rfl := Option.some.inj hj; exact Tryd.underlying3
    | 1, hj => obtain rfl := Option.some.inj hj; exact Tryd.underlying3) h0
  obtain ⟨A, m, c, Y, hcs, hm, hc, hY⟩ := cells_ints Tryd.underlying46 Tryd.underlying51 (by kernel_rfl) h1
  have hs3 : cs.size = 3 := hsz.trans (by kernel_rfl)
  have e0 := (hX 0 (by decide)).1
  have e1 := (hX 1 (by decide)).1
  rw [show Tryd.prog.cellsOf 45 = 2 by kernel_rfl] at e0 e1
  rw [show Tryd.prog.cellsOf 46 = 1 by kernel_rfl] at hcs
  have hl : ((List.range m).map fun i => Y i).length = m := by simp
  refine ⟨X 0, X 1, A, (List.range m).map fun i => Y i, c, ?_, fun hp => ?_, by rw [hl]; omega, fun p hp => ?_⟩
  · rw [hl]
    obtain ⟨l⟩ := cs
    match l, hs3, e0, e1, hcs with
    | [a, b, z], _, e0, e1, hcs =>
      simp [Value.cells] at e0 e1 hcs
      rw [e0, e1, hcs]
  · obtain ⟨b, off, e, hb, hk⟩ := hY (by omega)
    refine ⟨b, off, e, hb, fun k x hx j u hu => ?_⟩
    have hkm : k < m := by
      have := (List.getElem?_eq_some_iff.1 hx).1
      omega
    obtain rfl : x = Y k := by
      rw [List.getElem?_map, List.getElem?_range hkm] at hx
      exact (Option.some.inj hx).symm
    match j, hu with
    | 0, hu => rw [show u = .int .i8 (Y k) from (Option.some.inj hu).symm, Nat.mul_one]; exact (hk k hkm).1
    | (j + 1), hu => simp [pEnc] at hu
  · obtain ⟨i, hi, rfl⟩ := List.mem_map.1 hp
    have him := List.mem_range.1 hi
    obtain ⟨b, off, e, hb, hk⟩ := hY (by omega)
    exact wf_i8 (hk i him).2

set_option maxRecDepth 100000 in
theorem read_atom {H : Type} {enc : TypeId × Value → H} {W : World} {base : Nat} {spare : Nat → Bool} {held : Bool} (m : Nat) (cs : List Value) (x : DataW H × List MemPlace)
    (h : DataW.trod enc Tryd.prog W base spare held m 40 cs = some x) : ∃ y : At, cs = aEnc y ∧ wfA y := by
  obtain ⟨X, hX⟩ := struct_ints (ks := fun _ => .i64) Tryd.underlying40 (by kernel_rfl) (fun j f hj => by
    match j, hj with
    | 0, hj => obtain rfl := Option.some.inj hj; exact Tryd.underlying36
    | 1, hj => obtain rfl := Option.some.inj hj; exact Tryd.underlying3
    | 2, hj => obtain rfl := Option.some.inj hj; exact Tryd.underlying3
    | 3, hj => obtain rfl := Option.some.inj hj; exact Tryd.underlying3
    | 4, hj => obtain rfl := Option.some.inj hj; exact Tryd.underlying37
    | 5, hj => obtain rfl := Option.some.inj hj; exact Tryd.underlying38) h
  obtain ⟨_, _, _, _, hlen, _, _⟩ := DataW.trod_struct Tryd.underlying40 h
  have hs6 : cs.length = 6 := hlen.trans (by kernel_rfl)
  have e0 := hX 0 (by decide)
  have e1 := hX 1 (by decide)
  have e2 := hX 2 (by decide)
  have e3 := hX 3 (by decide)
  have e4 := hX 4 (by decide)
  have e5 := hX 5 (by decide)
  refine ⟨⟨X 0, X 1, X 2, X 3, X 4, X 5⟩, ?_, e0.2, e1.2, e2.2, e3.2, e4.2, e5.2⟩
  match cs, hs6, e0.1, e1.1, e2.1, e3.1, e4.1, e5.1 with
  | [a, b, c, d, e, f], _, e0, e1, e2, e3, e4, e5 =>
    simp at e0 e1 e2 e3 e4 e5
    rw [e0, e1, e2, e3, e4, e5]
    rfl
set_option maxRecDepth 100000 in
theorem open_atom {H : Type} {enc : TypeId × Value → H} {W : World} {r : Reach} {b0 : Nat} {v : Value} {d : DataW H} {ps : List MemPlace} (hval : Value.okWide Tryd.prog W r b0 40 v)
    (h : DataW.Trod enc Tryd.prog W 0 (fun _ => true) true 40 v d ps) : ∃ x : At, v = aV x ∧ wfA x := by
  obtain ⟨cs, rfl, hsz⟩ := okWide_struct Tryd.underlying40 hval
  obtain ⟨fuel, h⟩ := h
  obtain ⟨y, hy, hw⟩ := read_atom _ _ _ h
  refine ⟨y, ?_, hw⟩
  obtain ⟨l⟩ := cs
  simp only [Value.cells] at hy
  show Value.agg ⟨l⟩ = _
  rw [show l = aEnc y from by simpa using hy]
  rfl
set_option maxRecDepth 100000 in
theorem open_fairy {H : Type} {enc : TypeId × Value → H} {W : World} {r : Reach} {b0 : Nat} {v : Value} {d : DataW H} {ps : List MemPlace} (hval : Value.okWide Tryd.prog W r b0 25 v)
    (h : DataW.Trod enc Tryd.prog W 0 (fun _ => true) true 25 v d ps) : ∃ (s : ByteArray) (A : Option Addr) (l : List At) (c : Nat), v = .agg #[.string s, .slice A (List.length l) c] ∧ RecAt aEnc 6 W W.heap.size A l ∧ (∀ x ∈ l, wfA x) ∧ l.length ≤ maxLen ∧ s.size ≤ maxLen := by
  obtain ⟨cs, rfl, hsz⟩ := okWide_struct Tryd.underlying25 hval
  obtain ⟨fuel, h⟩ := h
  obtain ⟨y0, y1, n, _, _, h0, h1⟩ := trod_struct2 Tryd.underlying25 h
  obtain ⟨s, hs, _, hsl⟩ := DataW.trod_string Tryd.underlying9 h0
  obtain ⟨A, m, c, X, hcs, hm, hc, hq, hX⟩ := cells_recs (E := aEnc) (Q := wfA) Tryd.underlying23 (fun _ => by rw [aEnc_len]; exact (by kernel_rfl : 6 = Tryd.prog.cellsOf 40)) read_atom
    (by rw [← (by kernel_rfl : 6 = Tryd.prog.cellsOf 40)]; decide) h1
  have hs2 : cs.size = 2 := hsz.trans (by kernel_rfl)
  rw [show Tryd.prog.cellsOf 9 = 1 by kernel_rfl] at hs
  rw [show Tryd.prog.cellsOf 23 = 1 by kernel_rfl] at hcs
  have hl : ((List.range m).map fun i => X i).length = m := by simp
  refine ⟨s, A, (List.range m).map fun i => X i, c, ?_, fun hp => ?_, fun x hx => ?_, by rw [hl]; omega, hsl⟩
  · rw [hl]
    obtain ⟨l⟩ := cs
    match l, hs2, hs, hcs with
    | [a, b], _, hs, hcs =>
      simp [Value.cells] at hs hcs
      rw [hs, hcs]
  · obtain ⟨b, off, e, hb, hk⟩ := hX (by omega)
    refine ⟨b, off, e, hb, fun k x hx j u hu => ?_⟩
    have hkm : k < m := by
      have := (List.getElem?_eq_some_iff.1 hx).1
      omega
    obtain rfl : x = X k := by
      rw [List.getElem?_map, List.getElem?_range hkm] at hx
      exact (Option.some.inj hx).symm
    have := hk k hkm j u hu
    rwa [← (by kernel_rfl : 6 = Tryd.prog.cellsOf 40)] at this
  · obtain ⟨i, hi, rfl⟩ := List.mem_map.1 hx
    exact hq i (List.mem_range.1 hi)
end Go.Proofs.YtbcdimklblpdnaaDoor
