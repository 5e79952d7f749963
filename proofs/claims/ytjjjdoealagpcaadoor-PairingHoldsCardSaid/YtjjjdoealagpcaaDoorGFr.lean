/- The frame of the cards of layer 43: the library's table out of the row's condition; fields that came in. -/
import Derived.Test.YtjjjdoealagpcaaDoorRows
import Derived.Test.YtjjjdoealagpcaaDoorFlat
import Derived.Test.YtjjjdoealagpcaaDoorSl
import Derived.Test.YtjjjdoealagpcaaDoorGw
import Derived.WalkKit
import Derived.ProofKit
import Derived.OpenShut
import Derived.LaidMore
import Derived.Stop.Joined
namespace Go.Proofs.YtjjjdoealagpcaaDoor
open Go Go.ChangeShapes Go.WideShapes Go.ChangeAt Go.RowKit
set_option linter.unusedVariables false
theorem own : ownKnob Tryd.prog.godebug = none := by kernel_rfl
theorem gTab : Tryd.prog.globalNamed "math/bits.deBruijn64tab" = some 1 := by kernel_rfl
theorem tTab : (Tryd.prog.globals[1]?).map (·.type) = some 82 := by kernel_rfl
theorem door_met (os : Os) (args : Array Value) : laidMetH Tryd.prog [("math/bits.deBruijn32tab", Rows.laid_math_bits_deBruijn32tab), ("math/bits.deBruijn64tab", Rows.laid_math_bits_deBruijn64tab)] ((World.doorLaid Tryd.prog 400 os).forCall (fun _ _ => 0) ⟨#[], args, []⟩).memory :=
  laidMetH_of_parts3 (fuel := 8) (laidMet_of_run' 8 (by kernel_rfl) (by kernel_rfl)) (by kernel_rfl) (by kernel_rfl)
theorem tab_cells : (List.range 64).map (fun j => cellAt (H := Unit) Tryd.prog 2 82 Rows.laid_math_bits_deBruijn64tab j) = (List.range 64).map (fun j => some (Value.int .u8 (Lib.deBruijn64tab.getD j 0))) := by kernel_rfl
theorem tab_cell {j : Nat} (h : j < 64) : cellAt (H := Unit) Tryd.prog 2 82 Rows.laid_math_bits_deBruijn64tab j = some (Value.int .u8 (Lib.deBruijn64tab.getD j 0)) := by
  have h1 := congrArg (fun l : List (Option Value) => l[j]?) tab_cells
  simp only [List.getElem?_map, List.getElem?_range h, Option.map_some] at h1
  exact Option.some.inj h1
theorem of_laid {W : World} (h : laidMetH Tryd.prog [("math/bits.deBruijn32tab", Rows.laid_math_bits_deBruijn32tab), ("math/bits.deBruijn64tab", Rows.laid_math_bits_deBruijn64tab)] W) : TabOK W := by
  rw [MakeChecks.laidMetH_plain _ _ _ (by kernel_rfl)] at h
  obtain ⟨ps, ⟨_, _, _, _, _, _, _, _, _, _, ⟨g0, t0, cs0, f0, p0, q0, hg0, ht0, hv0, hd0, _, _⟩, _⟩, _, _⟩ := h
  obtain rfl := Option.some.inj (gTab.symm.trans hg0)
  obtain rfl := Option.some.inj (tTab.symm.trans ht0)
  have hc : ∀ i v, cellAt (H := Unit) Tryd.prog 2 82 Rows.laid_math_bits_deBruijn64tab i = some v → W.cell? ⟨1, i, none⟩ = some v := fun i v hi => by
    have h1 := World.var?_cell hg0 hv0 i
    have h2 := cellAt_of 2 _ _ _ _ _ i v hd0 hi
    rw [h1]
    simpa using h2
  refine ⟨fun j hj => hc _ _ (tab_cell hj), ?_⟩
  exact cell_lt (a := ⟨1, 0, none⟩) (hc _ _ (tab_cell (j := 0) (by decide)))
section
variable {H : Type} {enc : TypeId × Value → H} {P : Program} {w : World} {base : Nat} {spare : Nat → Bool} {held : Bool}
open Go.Deep
/-- a slice whose elements read as records -/
theorem slice_recs {α : Type} [Inhabited α] {E : α → List Value} {Q : α → Prop} {r : Reach} {b0 : Nat} {t e : TypeId} {v : Value} {d : DataW H} {ps : List MemPlace} (ht : P.underlying t = some (.slice e))
    (hl : ∀ x, (E x).length = P.cellsOf e) (hE : ∀ m cs x, DataW.trod enc P w base spare held m e cs = some x → ∃ y, cs = E y ∧ Q y) (hp0 : 0 < P.cellsOf e)
    (hval : Value.okWide P w r b0 t v) (h : DataW.Trod enc P w base spare held t v d ps) :
    ∃ (A : Option Addr) (n c : Nat) (X : Nat → α), v = .slice A n c ∧ n ≤ c ∧ c ≤ maxLen ∧ (∀ i, i < n → Q (X i)) ∧
      (0 < n → ∃ b off, A = some ⟨b, off, none⟩ ∧ b < w.heap.size ∧ ∀ i, i < n → ∀ j u, (E (X i))[j]? = some u → w.cell? ⟨b, off + i * P.cellsOf e + j, none⟩ = some u) := by
  obtain ⟨a0, l0, c0, rfl⟩ := okWide_slice ht hval
  obtain ⟨fuel, hf⟩ := h
  rcases open_slice ht hf with ⟨hcs, hx⟩ | ⟨a, len, cap, m, n, D, Pl, hcs, hb, hl0, hm, hmm, hx, hi⟩
  · simp [Value.cells] at hcs
    obtain ⟨rfl, rfl, rfl⟩ := hcs
    exact ⟨none, 0, 0, fun _ => default, rfl, Nat.le_refl _, Nat.zero_le _, fun i hi => absurd hi (by omega), fun h => absurd h (by omega)⟩
  · simp [Value.cells] at hcs
    obtain ⟨rfl, rfl, rfl⟩ := hcs
    have hlm : l0 ≤ m := by rw [hmm]; split <;> omega
    obtain ⟨X, hX⟩ := choose_lt (α := α) (n := l0) (p := fun i x => Q x ∧ ∀ j u, (E x)[j]? = some u → w.cell? (a.add (i * P.cellsOf e + j)) = some u) (fun i hil => by
      obtain ⟨cs', h1, h2⟩ := hi i (by omega)
      obtain ⟨y, hy, hq⟩ := hE _ _ _ h2
      obtain ⟨_, hlen, hat⟩ := World.cells?_some h1
      refine ⟨y, hq, fun j u hu => ?_⟩
      have hj : j < (E y).length := (List.getElem?_eq_some_iff.1 hu).1
      have h3 := hat j (by rw [hl] at hj; exact hj)
      rw [hy, hu, add_add] at h3
      exact h3)
    refine ⟨some a, l0, c0, X, rfl, hl0, hm, fun i hi' => (hX i hi').1, fun h0' => ?_⟩
    have he0 : 0 < (E (X 0)).length := by rw [hl]; exact hp0
    have hc0 := (hX 0 h0').2 0 _ (List.getElem?_eq_getElem he0)
    have hp : a = ⟨a.block, a.off, none⟩ := by
      have := addr_plain (a := a) (w := w) (by simpa [Addr.add] using hc0)
      exact this
    have hlt : a.block < w.heap.size := by
      have := cell_lt (a := a) (w := w) (by simpa [Addr.add] using hc0)
      exact this
    refine ⟨a.block, a.off, by rw [← hp], hlt, fun i hi' j u hu => ?_⟩
    have h4 := (hX i hi').2 j u hu
    rw [hp] at h4
    have e : (⟨a.block, a.off, none⟩ : Addr).add (i * P.cellsOf e + j) = ⟨a.block, a.off + i * P.cellsOf e + j, none⟩ := by
      unfold Addr.add
      split
      · rename_i h5; simp only [Addr.mk.injEq, and_true, true_and]; omega
      · simp only [Addr.mk.injEq, and_true, true_and]; omega
    rwa [e] at h4
/-- the cells of a slice of integers -/
theorem cells_ints {t e : TypeId} {k : IntKind} {cs : List Value} {x : DataW H × List MemPlace} {fuel : Nat} (ht : P.underlying t = some (.slice e)) (he : P.underlying e = some (.int k))
    (hC : P.cellsOf e = 1) (hf : DataW.trod enc P w base spare held fuel t cs = some x) :
    ∃ (A : Option Addr) (n c : Nat) (X : Nat → Int), cs = [.slice A n c] ∧ n ≤ c ∧ c ≤ maxLen ∧
      (0 < n → ∃ b off, A = some ⟨b, off, none⟩ ∧ b < w.heap.size ∧ ∀ i, i < n → w.cell? ⟨b, off + i, none⟩ = some (.int k (X i)) ∧ (Lit.int k (X i)).wf = true) := by
  rcases open_slice ht hf with ⟨hcs, hx⟩ | ⟨a, l0, c0, m, n, D, Pl, hcs, hb, hl, hm, hmm, hx, hi⟩
  · exact ⟨none, 0, 0, fun _ => 0, hcs, Nat.le_refl _, Nat.zero_le _, fun h => absurd h (by omega)⟩
  · have hlm : l0 ≤ m := by rw [hmm]; split <;> omega
    obtain ⟨X, hX⟩ := choose_lt (α := Int) (n := l0) (p := fun i x => w.cell? (a.add i) = some (.int k x) ∧ (Lit.int k x).wf = true) (fun i hil => by
      obtain ⟨cs', h1, h2⟩ := hi i (by omega)
      obtain ⟨x, hc, _, hw⟩ := DataW.trod_int he h2
      obtain ⟨_, hlen, hat⟩ := World.cells?_some h1
      refine ⟨x, ?_, hw⟩
      have h3 := hat 0 (by omega)
      rw [hc, hC, add_add, Nat.mul_one, Nat.add_zero] at h3
      exact h3)
    refine ⟨some a, l0, c0, X, hcs, hl, hm, fun h0' => ?_⟩
    have hc0 := (hX 0 h0').1
    have hp : a = ⟨a.block, a.off, none⟩ := by
      have := addr_plain (a := a) (w := w) (by simpa [Addr.add] using hc0)
      exact this
    have hlt : a.block < w.heap.size := by
      have := cell_lt (a := a) (w := w) (by simpa [Addr.add] using hc0)
      exact this
    refine ⟨a.block, a.off, by rw [← hp], hlt, fun i hi' => ⟨?_, (hX i hi').2⟩⟩
    have h4 := (hX i hi').1
    rw [hp] at h4
    have e : (⟨a.block, a.off, none⟩ : Addr).add i = ⟨a.block, a.off + i, none⟩ := by
      unfold Addr.add
      split
      · rename_i h5; simp only [Addr.mk.injEq, and_true, true_and]; omega
      · rfl
    rwa [e] at h4
end
theorem wf_i64 {n : Int} (h : (Lit.int .i64 n).wf = true) : -9223372036854775808 ≤ n ∧ n ≤ 9223372036854775807 := by
  unfold Lit.wf at h
  rw [Bool.and_eq_true, decide_eq_true_eq, decide_eq_true_eq] at h
  rw [show IntKind.i64.min = -9223372036854775808 by rfl, show IntKind.i64.max = 9223372036854775807 by rfl] at h
  exact h
/-- a slice of numbers, read: its row -/
theorem ints_row {H : Type} {enc : TypeId × Value → H} {w : World} {base : Nat} {spare : Nat → Bool} {held : Bool} {cs : List Value} {x : DataW H × List MemPlace} {fuel : Nat} (hf : DataW.trod enc Tryd.prog w base spare held fuel 23 cs = some x) :
    ∃ (A : Option Addr) (l : List Int) (c : Nat), cs = [.slice A l.length c] ∧ RecAt iEnc 1 w w.heap.size A l ∧ l.length ≤ c ∧ c ≤ maxLen ∧ ∀ n ∈ l, -9223372036854775808 ≤ n ∧ n ≤ 9223372036854775807 := by
  obtain ⟨A, m, c, Y, hcs, hm, hc, hY⟩ := cells_ints Tryd.underlying23 Tryd.underlying3 (by kernel_rfl) hf
  have hl : ((List.range m).map fun i => Y i).length = m := by simp
  refine ⟨A, (List.range m).map fun i => Y i, c, by rw [hl]; exact hcs, fun hp => ?_, by rw [hl]; exact hm, hc, fun p hp => ?_⟩
  · obtain ⟨b, off, e, hb, hk⟩ := hY (by omega)
    refine ⟨b, off, e, hb, fun k x hx j u hu => ?_⟩
    have hkm : k < m := by
      have := (List.getElem?_eq_some_iff.1 hx).1
      omega
    obtain rfl : x = Y k := by
      rw [List.getElem?_map, List.getElem?_range hkm] at hx
      exact (Option.some.inj hx).symm
    match j, hu with
    | 0, hu => rw [show u = .int .i64 (Y k) from (Option.some.inj hu).symm, Nat.mul_one]; exact (hk k hkm).1
    | (j + 1), hu => simp [iEnc] at hu
  · obtain ⟨i, hi, rfl⟩ := List.mem_map.1 hp
    have him := List.mem_range.1 hi
    obtain ⟨b, off, e, hb, hk⟩ := hY (by omega)
    exact wf_i64 (hk i him).2
set_option maxRecDepth 100000 in
theorem read_ent {H : Type} {enc : TypeId × Value → H} {w : World} {base : Nat} {spare : Nat → Bool} {held : Bool} (m : Nat) (cs : List Value) (x : DataW H × List MemPlace)
    (h : DataW.trod enc Tryd.prog w base spare held m 25 cs = some x) : ∃ y : Ent, cs = eEnc y ∧ (RecAt iEnc 1 w w.heap.size y.mA y.met ∧ y.name.size ≤ maxLen ∧ y.met.length ≤ maxLen) := by
  have hu := Tryd.underlying25
  obtain ⟨xs, m', rfl, ee, hl, hx, hf⟩ := DataW.trod_struct hu h
  have hl8 : cs.length = 8 := hl.trans (by kernel_rfl)
  have c9 : Tryd.prog.cellsOf 9 = 1 := by kernel_rfl
  have c3 : Tryd.prog.cellsOf 3 = 1 := by kernel_rfl
  have c4 : Tryd.prog.cellsOf 4 = 1 := by kernel_rfl
  have c23 : Tryd.prog.cellsOf 23 = 1 := by kernel_rfl
  have hx8 : xs.length = 8 := hx
  have f0 : DataW.trod enc Tryd.prog w base spare held m' 9 ((cs.drop 0).take (Tryd.prog.cellsOf 9)) = xs[0]? := hf 0 _ rfl
  have f1 : DataW.trod enc Tryd.prog w base spare held m' 3 ((cs.drop 1).take (Tryd.prog.cellsOf 3)) = xs[1]? := hf 1 _ rfl
  have f2 : DataW.trod enc Tryd.prog w base spare held m' 3 ((cs.drop 2).take (Tryd.prog.cellsOf 3)) = xs[2]? := hf 2 _ rfl
  have f3 : DataW.trod enc Tryd.prog w base spare held m' 3 ((cs.drop 3).take (Tryd.prog.cellsOf 3)) = xs[3]? := hf 3 _ rfl
  have f4 : DataW.trod enc Tryd.prog w base spare held m' 3 ((cs.drop 4).take (Tryd.prog.cellsOf 3)) = xs[4]? := hf 4 _ rfl
  have f5 : DataW.trod enc Tryd.prog w base spare held m' 3 ((cs.drop 5).take (Tryd.prog.cellsOf 3)) = xs[5]? := hf 5 _ rfl
  have f6 : DataW.trod enc Tryd.prog w base spare held m' 4 ((cs.drop 6).take (Tryd.prog.cellsOf 4)) = xs[6]? := hf 6 _ rfl
  have f7 : DataW.trod enc Tryd.prog w base spare held m' 23 ((cs.drop 7).take (Tryd.prog.cellsOf 23)) = xs[7]? := hf 7 _ rfl
  simp only [c9, c3, c4, c23] at f0 f1 f2 f3 f4 f5 f6 f7
  rw [List.getElem?_eq_getElem (by omega)] at f0 f1 f2 f3 f4 f5 f6 f7
  obtain ⟨s, h0, _, hs⟩ := DataW.trod_string Tryd.underlying9 f0
  obtain ⟨n1, h1, _, _⟩ := DataW.trod_int Tryd.underlying3 f1
  obtain ⟨n2, h2, _, _⟩ := DataW.trod_int Tryd.underlying3 f2
  obtain ⟨n3, h3, _, _⟩ := DataW.trod_int Tryd.underlying3 f3
  obtain ⟨n4, h4, _, _⟩ := DataW.trod_int Tryd.underlying3 f4
  obtain ⟨n5, h5, _, _⟩ := DataW.trod_int Tryd.underlying3 f5
  obtain ⟨b6, h6, _⟩ := DataW.trod_bool Tryd.underlying4 f6
  obtain ⟨A, l, c, h7, hR, hlc, hcm, _⟩ := ints_row f7
  refine ⟨⟨s, n1, n2, n3, n4, n5, b6, l, A, c⟩, ?_, hR, hs, Nat.le_trans hlc hcm⟩
  match cs, hl8, h0, h1, h2, h3, h4, h5, h6, h7 with
  | [a0, a1, a2, a3, a4, a5, a6, a7], _, h0, h1, h2, h3, h4, h5, h6, h7 =>
    simp at h0 h1 h2 h3 h4 h5 h6 h7
    rw [h0, h1, h2, h3, h4, h5, h6, h7]
    rfl
set_option maxRecDepth 100000 in
theorem open_field {H : Type} {enc : TypeId × Value → H} {W : World} {r : Reach} {b0 : Nat} {v : Value} {d : DataW H} {ps : List MemPlace} (hval : Value.okWide Tryd.prog W r b0 22 v)
    (h : DataW.Trod enc Tryd.prog W 0 (fun _ => true) true 22 v d ps) : ∃ (A : Option Addr) (l : List Ent) (c : Nat), v = .slice A (List.length l) c ∧ FI W A l c := by
  obtain ⟨A, n, c, X, rfl, hn, hc, hQ, hX⟩ := slice_recs (E := eEnc) (Q := fun y => RecAt iEnc 1 W W.heap.size y.mA y.met ∧ y.name.size ≤ maxLen ∧ y.met.length ≤ maxLen) Tryd.underlying22 (fun _ => by rw [eEnc_len]; exact (by kernel_rfl : 8 = Tryd.prog.cellsOf 25)) read_ent
    (by rw [← (by kernel_rfl : 8 = Tryd.prog.cellsOf 25)]; decide) hval h
  have hl : ((List.range n).map fun i => X i).length = n := by simp
  have hmem : ∀ x ∈ (List.range n).map fun i => X i, ∃ i, i < n ∧ x = X i := fun x hx => by
    obtain ⟨i, hi, rfl⟩ := List.mem_map.1 hx
    exact ⟨i, List.mem_range.1 hi, rfl⟩
  refine ⟨A, (List.range n).map fun i => X i, c, by rw [hl], ⟨fun hp => ?_, fun x hx => ?_⟩, by rw [hl]; exact hn, by rw [hl]; omega, fun x hx => ?_⟩
  · obtain ⟨b, off, e, hb, hk⟩ := hX (by omega)
    rw [← (by kernel_rfl : 8 = Tryd.prog.cellsOf 25)] at hk
    refine ⟨b, off, e, hb, fun k x hx j u hu => ?_⟩
    have hkm : k < n := by
      have := (List.getElem?_eq_some_iff.1 hx).1
      omega
    obtain rfl : x = X k := by
      rw [List.getElem?_map, List.getElem?_range hkm] at hx
      exact (Option.some.inj hx).symm
    exact hk k hkm j u hu
  · obtain ⟨i, hi, rfl⟩ := hmem x hx
    exact (hQ i hi).1
  · obtain ⟨i, hi, rfl⟩ := hmem x hx
    exact ⟨(hQ i hi).2.1, (hQ i hi).2.2⟩
end Go.Proofs.YtjjjdoealagpcaaDoor
