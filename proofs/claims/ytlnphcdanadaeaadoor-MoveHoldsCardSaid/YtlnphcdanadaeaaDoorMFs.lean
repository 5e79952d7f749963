/- The frame of the cards of layer 7: lists of moves that came in. -/
import Derived.Test.YtlnphcdanadaeaaDoorMFr
import Derived.Test.YtlnphcdanadaeaaDoorMi
namespace Go.Proofs.YtlnphcdanadaeaaDoor
open Go Go.ChangeShapes Go.WideShapes Go.ChangeAt Go.RowKit
set_option linter.unusedVariables false

set_option maxRecDepth 100000 in
theorem open_moves {H : Type} {enc : TypeId × Value → H} {W : World} {r : Reach} {b0 : Nat} {v : Value} {d : DataW H} {ps : List MemPlace} (hval : Value.okWide Tryd.prog W r b0 40 v)
    (h : DataW.Trod enc Tryd.prog W 0 (fun _ => true) true 40 v d ps) : ∃ (A : Option Addr) (l : List Mv) (c : Nat), v = .slice A (List.length l) c ∧ RecAt mEnc 3 W W.heap.size A l ∧ l.length ≤ maxLen := by
  obtain ⟨A, n, c, X, rfl, hn, hm, hX⟩ := slice_structs (ks := kindM) Tryd.underlying40 Tryd.underlying27 (by kernel_rfl) (by kernel_rfl) (fun j f hj => by
    match j, hj with
    | 0, hj => obtain rfl := Option.some.inj hj; exact Tryd.underlying3
    | 1, hj => obtain rfl := Option.some.inj hj; exact Tryd.underlying3
    | 2, hj => obtain rfl := Option.some.inj hj; exact Tryd.underlying25) (by decide) hval h
  have hl : ((List.range n).map fun i => (X i 0, X i 1, X i 2)).length = n := by simp
  refine ⟨A, (List.range n).map fun i => (X i 0, X i 1, X i 2), c, by rw [hl], fun h0 => ?_, by rw [hl]; omega⟩
  obtain ⟨b, off, e, hb, hc⟩ := hX (by omega)
  refine ⟨b, off, e, hb, fun k x hk j u hu => ?_⟩
  have hkn : k < n := by
    have := (List.getElem?_eq_some_iff.1 hk).1
    omega
  obtain rfl : x = (X k 0, X k 1, X k 2) := by
    rw [List.getElem?_map, List.getElem?_range hkn] at hk
    exact (Option.some.inj hk).symm
  match j, hu with
  | 0, hu => rw [show u = .int .i64 (X k 0) from (Option.some.inj hu).symm]; exact (hc k hkn 0 (by decide)).1
  | 1, hu => rw [show u = .int .i64 (X k 1) from (Option.some.inj hu).symm]; exact (hc k hkn 1 (by decide)).1
  | 2, hu => rw [show u = .int .i8 (X k 2) from (Option.some.inj hu).symm]; exact (hc k hkn 2 (by decide)).1
  | (j + 3), hu => simp [mEnc] at hu
end Go.Proofs.YtlnphcdanadaeaaDoor
