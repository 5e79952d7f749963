/- The frame of the cards of layer 3: boards that came in, with their capacity. -/
import Derived.Test.YtjglpphfkkabnaaDoorBFr
namespace Go.Proofs.YtjglpphfkkabnaaDoor
open Go Go.ChangeShapes Go.WideShapes Go.ChangeAt Go.RowKit
set_option linter.unusedVariables false

set_option maxRecDepth 100000 in
theorem open_boardc {H : Type} {enc : TypeId × Value → H} {W : World} {r : Reach} {b0 : Nat} {v : Value} {d : DataW H} {ps : List MemPlace} (hval : Value.okWide Tryd.prog W r b0 26 v)
    (h : DataW.Trod enc Tryd.prog W 0 (fun _ => true) true 26 v d ps) : ∃ (f r : Int) (A : Option Addr) (l : List Int) (c : Nat), v = bV f r A (List.length l) c ∧ PcsAt W W.heap.size A l ∧ l.length ≤ maxLen ∧ (∀ p, p ∈ l → -128 ≤ p ∧ p ≤ 127) ∧ l.length ≤ c := by
  obtain ⟨cs, rfl, hsz⟩ := okWide_struct Tryd.underlying26 hval
  obtain ⟨fuel, h⟩ := h
  obtain ⟨y0, y1, n, _, _, h0, h1⟩ := trod_struct2 Tryd.underlying26 h
  obtain ⟨X, hX⟩ := struct_ints (ks := fun _ => .i64) Tryd.underlying23 (by kernel_rfl) (fun j f hj => by
    match j, hj with
    | 0, hj => obtain rfl := Option.some.inj hj; exact Tryd.underlying3
    | 1, hj => obtain rfl := Option.some.inj hj; exact Tryd.underlying3) h0
  obtain ⟨A, m, c, Y, hcs, hm, hc, hY⟩ := cells_ints Tryd.underlying24 Tryd.underlying28 (by kernel_rfl) h1
  have hs3 : cs.size = 3 := hsz.trans (by kernel_rfl)
  have e0 := (hX 0 (by decide)).1
  have e1 := (hX 1 (by decide)).1
  rw [show Tryd.prog.cellsOf 23 = 2 by kernel_rfl] at e0 e1
  rw [show Tryd.prog.cellsOf 24 = 1 by kernel_rfl] at hcs
  have hl : ((List.range m).map fun i => Y i).length = m := by simp
  refine ⟨X 0, X 1, A, (List.range m).map fun i => Y i, c, ?_, fun hp => ?_, by rw [hl]; omega, fun p hp => ?_, by rw [hl]; exact hm⟩
  · rw [hl]
    obtain ⟨l⟩ := cs
    match l, hs3, e0, e1, hcs with
    | [a, b, z], _, e0, e1, hcs =>
      simp [Value.cells] at e0 e1 hcs
      rw [e0, e1, hcs]
  · obtain ⟨b, off, e, hb, hk⟩ := hY (by omega)
    refine ⟨b, off, e, hb, fun k x hx j u hu => ?_⟩
    have hkm : k < m := by
      have := (List.getElem?_eq_some_iff.1 hx).1
      omega
    obtain rfl : x = Y k := by
      rw [List.getElem?_map, List.getElem?_range hkm] at hx
      exact (Option.some.inj hx).symm
    match j, hu with
    | 0, hu => rw [show u = .int .i8 (Y k) from (Option.some.inj hu).symm, Nat.mul_one]; exact (hk k hkm).1
    | (j + 1), hu => simp [qEnc] at hu
  · obtain ⟨i, hi, rfl⟩ := List.mem_map.1 hp
    have him := List.mem_range.1 hi
    obtain ⟨b, off, e, hb, hk⟩ := hY (by omega)
    exact wf_i8 (hk i him).2
end Go.Proofs.YtjglpphfkkabnaaDoor
