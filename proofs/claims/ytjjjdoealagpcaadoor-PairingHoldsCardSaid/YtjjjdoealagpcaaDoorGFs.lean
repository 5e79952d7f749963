/- The frame of the cards of layer 43, second part: rounds that came in. -/
import Derived.Test.YtjjjdoealagpcaaDoorGFr
import Derived.Test.YtjjjdoealagpcaaDoorHf
import Derived.ChangeSame
namespace Go.Proofs.YtjjjdoealagpcaaDoor
open Go Go.ChangeShapes Go.WideShapes Go.ChangeAt Go.RowKit
set_option linter.unusedVariables false
section
variable {H : Type} {enc : TypeId × Value → H} {P : Program} {w : World} {base : Nat} {spare : Nat → Bool} {held : Bool}
open Go.Deep
/-- the cells of a slice of truth values -/
theorem cells_bools {t e : TypeId} {cs : List Value} {x : DataW H × List MemPlace} {fuel : Nat} (ht : P.underlying t = some (.slice e)) (he : P.underlying e = some .bool)
    (hC : P.cellsOf e = 1) (hf : DataW.trod enc P w base spare held fuel t cs = some x) :
    ∃ (A : Option Addr) (n c : Nat) (X : Nat → Bool), cs = [.slice A n c] ∧ n ≤ c ∧ c ≤ maxLen ∧
      (0 < n → ∃ b off, A = some ⟨b, off, none⟩ ∧ b < w.heap.size ∧ ∀ i, i < n → w.cell? ⟨b, off + i, none⟩ = some (.bool (X i))) := by
  rcases open_slice ht hf with ⟨hcs, hx⟩ | ⟨a, l0, c0, m, n, D, Pl, hcs, hb, hl, hm, hmm, hx, hi⟩
  · exact ⟨none, 0, 0, fun _ => false, hcs, Nat.le_refl _, Nat.zero_le _, fun h => absurd h (by omega)⟩
  · have hlm : l0 ≤ m := by rw [hmm]; split <;> omega
    obtain ⟨X, hX⟩ := choose_lt (α := Bool) (n := l0) (p := fun i x => w.cell? (a.add i) = some (.bool x)) (fun i hil => by
      obtain ⟨cs', h1, h2⟩ := hi i (by omega)
      obtain ⟨x, hc, _⟩ := DataW.trod_bool he h2
      obtain ⟨_, hlen, hat⟩ := World.cells?_some h1
      refine ⟨x, ?_⟩
      have h3 := hat 0 (by omega)
      rw [hc, hC, add_add, Nat.mul_one, Nat.add_zero] at h3
      exact h3)
    refine ⟨some a, l0, c0, X, hcs, hl, hm, fun h0' => ?_⟩
    have hc0 := hX 0 h0'
    have hp : a = ⟨a.block, a.off, none⟩ := by
      have := addr_plain (a := a) (w := w) (by simpa [Addr.add] using hc0)
      exact this
    have hlt : a.block < w.heap.size := by
      have := cell_lt (a := a) (w := w) (by simpa [Addr.add] using hc0)
      exact this
    refine ⟨a.block, a.off, by rw [← hp], hlt, fun i hi' => ?_⟩
    have h4 := hX i hi'
    rw [hp] at h4
    have e : (⟨a.block, a.off, none⟩ : Addr).add i = ⟨a.block, a.off + i, none⟩ := by
      unfold Addr.add
      split
      · rename_i h5; simp only [Addr.mk.injEq, and_true, true_and]; omega
      · rfl
    rwa [e] at h4
end
/-- a slice of truth values, read: its row -/
theorem bools_row {H : Type} {enc : TypeId × Value → H} {w : World} {base : Nat} {spare : Nat → Bool} {held : Bool} {cs : List Value} {x : DataW H × List MemPlace} {fuel : Nat} (hf : DataW.trod enc Tryd.prog w base spare held fuel 28 cs = some x) :
    ∃ (A : Option Addr) (l : List Bool) (c : Nat), cs = [.slice A l.length c] ∧ RecAt tEnc 1 w w.heap.size A l ∧ l.length ≤ c ∧ c ≤ maxLen := by
  obtain ⟨A, m, c, Y, hcs, hm, hc, hY⟩ := cells_bools Tryd.underlying28 Tryd.underlying4 (by kernel_rfl) hf
  have hl : ((List.range m).map fun i => Y i).length = m := by simp
  refine ⟨A, (List.range m).map fun i => Y i, c, by rw [hl]; exact hcs, fun hp => ?_, by rw [hl]; exact hm, hc⟩
  obtain ⟨b, off, e, hb, hk⟩ := hY (by omega)
  refine ⟨b, off, e, hb, fun k x hx j u hu => ?_⟩
  have hkm : k < m := by
    have := (List.getElem?_eq_some_iff.1 hx).1
    omega
  obtain rfl : x = Y k := by
    rw [List.getElem?_map, List.getElem?_range hkm] at hx
    exact (Option.some.inj hx).symm
  match j, hu with
  | 0, hu => rw [show u = .bool (Y k) from (Option.some.inj hu).symm, Nat.mul_one]; exact hk k hkm
  | (j + 1), hu => simp [tEnc] at hu
set_option maxRecDepth 100000 in
theorem open_round {H : Type} {enc : TypeId × Value → H} {W : World} {r : Reach} {b0 : Nat} {v : Value} {d : DataW H} {ps : List MemPlace} (hval : Value.okWide Tryd.prog W r b0 30 v)
    (h : DataW.Trod enc Tryd.prog W 0 (fun _ => true) true 30 v d ps) : ∃ (O : Option Addr) (o : List Int) (co : Nat) (V : Option Addr) (b : List Bool) (cv : Nat), v = .agg #[.slice O (List.length o) co, .slice V (List.length b) cv] ∧ RM W O V o b ∧ o.length ≤ maxLen ∧ b.length ≤ maxLen := by
  obtain ⟨cs, rfl, hsz⟩ := okWide_struct Tryd.underlying30 hval
  obtain ⟨fuel, h⟩ := h
  obtain ⟨y0, y1, n, _, _, h0, h1⟩ := trod_struct2 Tryd.underlying30 h
  obtain ⟨O, o, co, e0, hR, hlc, hcm, _⟩ := ints_row h0
  obtain ⟨V, b, cv, e1, hR1, hlc1, hcm1⟩ := bools_row h1
  have hs2 : cs.size = 2 := hsz.trans (by kernel_rfl)
  rw [show Tryd.prog.cellsOf 23 = 1 by kernel_rfl] at e0
  rw [show Tryd.prog.cellsOf 28 = 1 by kernel_rfl] at e1
  refine ⟨O, o, co, V, b, cv, ?_, ⟨hR, hR1⟩, by omega, by omega⟩
  obtain ⟨l⟩ := cs
  match l, hs2, e0, e1 with
  | [x, y], _, e0, e1 =>
    simp [Value.cells] at e0 e1
    rw [e0, e1]
end Go.Proofs.YtjjjdoealagpcaaDoor
