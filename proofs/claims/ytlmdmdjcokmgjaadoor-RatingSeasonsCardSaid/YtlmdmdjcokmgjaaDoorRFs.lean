/- The frame of the card of RatingSeasons: lists of numbers and of encounters that came in. Printed by gen_seas.py. -/
import Derived.Test.YtlmdmdjcokmgjaaDoorRFr
import Derived.Test.YtlmdmdjcokmgjaaDoorRv
namespace Go.Proofs.YtlmdmdjcokmgjaaDoor
open Go.ChangeShapes Go.WideShapes Go.ChangeAt Go.RowKit
set_option linter.unusedVariables false

theorem open_ints {H : Type} {enc : TypeId × Value → H} {W : World} {r : Reach} {b0 : Nat} {v : Value} {d : DataW H} {ps : List MemPlace} (hval : Value.okWide Tryd.prog W r b0 40 v)
    (h : DataW.Trod enc Tryd.prog W 0 (fun _ => true) true 40 v d ps) : ∃ A l c, v = .slice A (List.length l) c ∧ RecAt iEnc 1 W W.heap.size A l := by
  obtain ⟨A, n, c, X, rfl, hn, hm, hX⟩ := slice_ints Tryd.underlying40 Tryd.underlying3 (by kernel_rfl) hval h
  refine ⟨A, (List.range n).map X, c, by simp, fun h0 => ?_⟩
  obtain ⟨b, off, e, hb, hc⟩ := hX (by simpa using h0)
  refine ⟨b, off, e, hb, fun k x hk j u hu => ?_⟩
  have hkn : k < n := by have := (List.getElem?_eq_some_iff.1 hk).1; simpa using this
  obtain rfl : X k = x := by simpa [hkn] using hk
  match j, hu with
  | 0, hu => rw [show u = .int .i64 (X k) from (Option.some.inj hu).symm]; simpa using (hc k hkn).1
  | (j + 1), hu => simp [iEnc] at hu
theorem open_encs {H : Type} {enc : TypeId × Value → H} {W : World} {r : Reach} {b0 : Nat} {v : Value} {d : DataW H} {ps : List MemPlace} (hval : Value.okWide Tryd.prog W r b0 41 v)
    (h : DataW.Trod enc Tryd.prog W 0 (fun _ => true) true 41 v d ps) : ∃ A l c, v = .slice A (List.length l) c ∧ RecAt eEnc 3 W W.heap.size A l := by
  obtain ⟨A, n, c, X, rfl, hn, hm, hX⟩ := slice_structs (ks := fun _ => .i64) Tryd.underlying41 Tryd.underlying43 (by kernel_rfl) (by kernel_rfl) (fun j f hj => by
    match j, hj with
    | 0, hj => obtain rfl := Option.some.inj hj; exact Tryd.underlying3
    | 1, hj => obtain rfl := Option.some.inj hj; exact Tryd.underlying3
    | 2, hj => obtain rfl := Option.some.inj hj; exact Tryd.underlying3) (by decide) hval h
  refine ⟨A, (List.range n).map fun i => (X i 0, X i 1, X i 2), c, by simp, fun h0 => ?_⟩
  obtain ⟨b, off, e, hb, hc⟩ := hX (by simpa using h0)
  refine ⟨b, off, e, hb, fun k x hk j u hu => ?_⟩
  have hkn : k < n := by have := (List.getElem?_eq_some_iff.1 hk).1; simpa using this
  obtain rfl : (X k 0, X k 1, X k 2) = x := by simpa [hkn] using hk
  match j, hu with
  | 0, hu => rw [show u = .int .i64 (X k 0) from (Option.some.inj hu).symm]; exact (hc k hkn 0 (by decide)).1
  | 1, hu => rw [show u = .int .i64 (X k 1) from (Option.some.inj hu).symm]; exact (hc k hkn 1 (by decide)).1
  | 2, hu => rw [show u = .int .i64 (X k 2) from (Option.some.inj hu).symm]; exact (hc k hkn 2 (by decide)).1
  | (j + 3), hu => simp [eEnc] at hu
end Go.Proofs.YtlmdmdjcokmgjaaDoor
