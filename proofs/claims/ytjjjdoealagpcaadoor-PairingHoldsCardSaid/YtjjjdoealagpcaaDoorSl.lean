/- Slices that came in, opened to their cells: of structs whose fields are integers, of integers. No program in sight. -/
import Derived.Deep.Slices
import Derived.Deep.Fields
import Derived.ProofKit
import Derived.WalkKit
namespace Go.Proofs.YtjjjdoealagpcaaDoor
open Go Go.ChangeShapes Go.WideShapes Go.Deep
set_option linter.unusedSimpArgs false
set_option linter.unusedVariables false

theorem addr_plain {w : World} {a : Addr} {v : Value} (h : w.cell? a = some v) : a = ⟨a.block, a.off, none⟩ := by
  obtain ⟨b, o, k⟩ := a
  cases k with
  | none => rfl
  | some k =>
    simp [World.cell?] at h
    split at h <;> cases h
theorem cell_lt {w : World} {a : Addr} {v : Value} (h : w.cell? a = some v) : a.block < w.heap.size := by
  rcases Nat.lt_or_ge a.block w.heap.size with hlt | hge
  · exact hlt
  · have hn : w.heap[a.block]? = none := Array.getElem?_eq_none hge
    obtain ⟨b, o, k⟩ := a
    simp only at hn
    cases k <;> simp [World.cell?, hn] at h

section
variable {H : Type} {enc : TypeId × Value → H} {P : Program} {w : World} {base : Nat} {spare : Nat → Bool} {held : Bool}
/-- a struct of integer fields, read: its cells -/
theorem struct_ints {e : TypeId} {fs : Array Field} {ks : Nat → IntKind} {fuel : Nat} {cs : List Value} {x : DataW H × List MemPlace} (he : P.underlying e = some (.struct fs))
    (hone : oneCellFields P fs = true) (hint : ∀ j f, fs[j]? = some f → P.underlying f.type = some (.int (ks j))) (h : DataW.trod enc P w base spare held fuel e cs = some x) :
    ∃ X : Nat → Int, ∀ j, j < fs.size → cs[j]? = some (.int (ks j) (X j)) ∧ (Lit.int (ks j) (X j)).wf = true := by
  obtain ⟨xs, m, rfl, ee, hl, hx, hf⟩ := DataW.trod_struct he h
  refine choose_lt (α := Int) (p := fun j n => cs[j]? = some (.int (ks j) n) ∧ (Lit.int (ks j) n).wf = true) (n := fs.size) (fun j hj => ?_)
  have hfj : fs[j]? = some fs[j] := Array.getElem?_eq_getElem hj
  obtain ⟨ho, hk⟩ := hone_of hone j fs[j] hfj
  have h1 := hf j fs[j] hfj
  have hjx : j < xs.length := by rw [hx]; exact hj
  rw [ho, hk, List.getElem?_eq_getElem hjx] at h1
  obtain ⟨r, hc, _, hw⟩ := DataW.trod_int (hint j fs[j] hfj) h1
  refine ⟨r, ?_, hw⟩
  have h2 : ((cs.drop j).take 1)[0]? = some (.int (ks j) r) := by rw [hc]; rfl
  rw [List.getElem?_take, if_pos (by omega), List.getElem?_drop] at h2
  simpa using h2

/-- a slice of structs of integer fields -/
theorem slice_structs {r : Reach} {b0 : Nat} {t e : TypeId} {fs : Array Field} {ks : Nat → IntKind} {v : Value} {d : DataW H} {ps : List MemPlace} (ht : P.underlying t = some (.slice e)) (he : P.underlying e = some (.struct fs))
    (hone : oneCellFields P fs = true) (hC : P.cellsOf e = fs.size) (hint : ∀ j f, fs[j]? = some f → P.underlying f.type = some (.int (ks j))) (h0 : 0 < fs.size)
    (hval : Value.okWide P w r b0 t v) (h : DataW.Trod enc P w base spare held t v d ps) :
    ∃ (A : Option Addr) (n c : Nat) (X : Nat → Nat → Int), v = .slice A n c ∧ n ≤ c ∧ c ≤ maxLen ∧
      (0 < n → ∃ b off, A = some ⟨b, off, none⟩ ∧ b < w.heap.size ∧ ∀ i, i < n → ∀ j, j < fs.size → w.cell? ⟨b, off + i * fs.size + j, none⟩ = some (.int (ks j) (X i j)) ∧ (Lit.int (ks j) (X i j)).wf = true) := by
  obtain ⟨a0, l0, c0, rfl⟩ := okWide_slice ht hval
  obtain ⟨fuel, hf⟩ := h
  rcases open_slice ht hf with ⟨hcs, hx⟩ | ⟨a, len, cap, m, n, D, Pl, hcs, hb, hl, hm, hmm, hx, hi⟩
  · simp [Value.cells] at hcs
    obtain ⟨rfl, rfl, rfl⟩ := hcs
    exact ⟨none, 0, 0, fun _ _ => 0, rfl, Nat.le_refl _, Nat.zero_le _, fun h => absurd h (by omega)⟩
  · simp [Value.cells] at hcs
    obtain ⟨rfl, rfl, rfl⟩ := hcs
    have hlm : l0 ≤ m := by rw [hmm]; split <;> omega
    obtain ⟨X, hX⟩ := choose_lt (α := Nat → Int) (n := l0) (p := fun i x => ∀ j, j < fs.size → w.cell? (a.add (i * fs.size + j)) = some (.int (ks j) (x j)) ∧ (Lit.int (ks j) (x j)).wf = true) (fun i hil => by
      obtain ⟨cs', h1, h2⟩ := hi i (by omega)
      obtain ⟨X, hX⟩ := struct_ints he hone hint h2
      obtain ⟨_, hlen, hat⟩ := World.cells?_some h1
      refine ⟨X, fun j hj => ⟨?_, (hX j hj).2⟩⟩
      have h3 := hat j (by rw [hC]; exact hj)
      rw [(hX j hj).1, hC, add_add] at h3
      exact h3)
    refine ⟨some a, l0, c0, X, rfl, hl, hm, fun h0' => ?_⟩
    have hc0 := (hX 0 h0' 0 h0).1
    have hp : a = ⟨a.block, a.off, none⟩ := by
      have := addr_plain (a := a) (w := w) (by simpa [Addr.add] using hc0)
      exact this
    have hlt : a.block < w.heap.size := by
      have := cell_lt (a := a) (w := w) (by simpa [Addr.add] using hc0)
      exact this
    refine ⟨a.block, a.off, by rw [← hp], hlt, fun i hi' j hj => ⟨?_, (hX i hi' j hj).2⟩⟩
    have h4 := (hX i hi' j hj).1
    rw [hp] at h4
    have e : (⟨a.block, a.off, none⟩ : Addr).add (i * fs.size + j) = ⟨a.block, a.off + i * fs.size + j, none⟩ := by
      unfold Addr.add
      split
      · rename_i h5; simp only [Addr.mk.injEq, and_true, true_and]; omega
      · simp only [Addr.mk.injEq, and_true, true_and]; omega
    rwa [e] at h4

/-- a slice of integers -/
theorem slice_ints {r : Reach} {b0 : Nat} {t e : TypeId} {k : IntKind} {v : Value} {d : DataW H} {ps : List MemPlace} (ht : P.underlying t = some (.slice e)) (he : P.underlying e = some (.int k))
    (hC : P.cellsOf e = 1) (hval : Value.okWide P w r b0 t v) (h : DataW.Trod enc P w base spare held t v d ps) :
    ∃ (A : Option Addr) (n c : Nat) (X : Nat → Int), v = .slice A n c ∧ n ≤ c ∧ c ≤ maxLen ∧
      (0 < n → ∃ b off, A = some ⟨b, off, none⟩ ∧ b < w.heap.size ∧ ∀ i, i < n → w.cell? ⟨b, off + i, none⟩ = some (.int k (X i)) ∧ (Lit.int k (X i)).wf = true) := by
  obtain ⟨a0, l0, c0, rfl⟩ := okWide_slice ht hval
  obtain ⟨fuel, hf⟩ := h
  rcases open_slice ht hf with ⟨hcs, hx⟩ | ⟨a, len, cap, m, n, D, Pl, hcs, hb, hl, hm, hmm, hx, hi⟩
  · simp [Value.cells] at hcs
    obtain ⟨rfl, rfl, rfl⟩ := hcs
    exact ⟨none, 0, 0, fun _ => 0, rfl, Nat.le_refl _, Nat.zero_le _, fun h => absurd h (by omega)⟩
  · simp [Value.cells] at hcs
    obtain ⟨rfl, rfl, rfl⟩ := hcs
    have hlm : l0 ≤ m := by rw [hmm]; split <;> omega
    obtain ⟨X, hX⟩ := choose_lt (α := Int) (n := l0) (p := fun i x => w.cell? (a.add i) = some (.int k x) ∧ (Lit.int k x).wf = true) (fun i hil => by
      obtain ⟨cs', h1, h2⟩ := hi i (by omega)
      obtain ⟨x, hc, _, hw⟩ := DataW.trod_int he h2
      obtain ⟨_, hlen, hat⟩ := World.cells?_some h1
      refine ⟨x, ?_, hw⟩
      have h3 := hat 0 (by omega)
      rw [hc, hC, add_add, Nat.mul_one, Nat.add_zero] at h3
      exact h3)
    refine ⟨some a, l0, c0, X, rfl, hl, hm, fun h0' => ?_⟩
    have hc0 := (hX 0 h0').1
    have hp : a = ⟨a.block, a.off, none⟩ := by
      have := addr_plain (a := a) (w := w) (by simpa [Addr.add] using hc0)
      exact this
    have hlt : a.block < w.heap.size := by
      have := cell_lt (a := a) (w := w) (by simpa [Addr.add] using hc0)
      exact this
    refine ⟨a.block, a.off, by rw [← hp], hlt, fun i hi' => ⟨?_, (hX i hi').2⟩⟩
    have h4 := (hX i hi').1
    rw [hp] at h4
    have e : (⟨a.block, a.off, none⟩ : Addr).add i = ⟨a.block, a.off + i, none⟩ := by
      unfold Addr.add
      split
      · rename_i h5; simp only [Addr.mk.injEq, and_true, true_and]; omega
      · rfl
    rwa [e] at h4
end
end Go.Proofs.YtjjjdoealagpcaaDoor
