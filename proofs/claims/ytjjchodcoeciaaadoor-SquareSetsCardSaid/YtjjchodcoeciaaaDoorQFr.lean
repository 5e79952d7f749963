/- The frame of the cards of layer 1: the table of the library out of the row's condition; a size that came in. -/
import Derived.Test.YtjjchodcoeciaaaDoorRows
import Derived.Test.YtjjchodcoeciaaaDoorFlat
import Derived.Test.YtjjchodcoeciaaaDoorSl
import Derived.Test.YtjjchodcoeciaaaDoorQg
import Derived.WalkKit
import Derived.ProofKit
import Derived.OpenShut
import Derived.LaidMore
import Derived.Stop.Joined
import Derived.Carry
namespace Go.Proofs.YtjjchodcoeciaaaDoor
open Go.ChangeShapes Go.WideShapes Go.ChangeAt Go.RowKit
set_option linter.unusedVariables false

theorem own : ownKnob Tryd.prog.godebug = none := by kernel_rfl
theorem laidOut : laidOutB Tryd.prog = true := by kernel_rfl
theorem gTab : Tryd.prog.globalNamed "math/bits.deBruijn64tab" = some 0 := by kernel_rfl
theorem tTab : (Tryd.prog.globals[0]?).map (·.type) = some 73 := by kernel_rfl

theorem door_met (os : Os) (args : Array Value) : laidMetH Tryd.prog [("math/bits.deBruijn64tab", Rows.laid_math_bits_deBruijn64tab)] ((World.doorLaid Tryd.prog 400 os).forCall (fun _ _ => 0) ⟨#[], args, []⟩).memory :=
  laidMetH_of_parts3 (fuel := 8) (laidMet_of_run' 8 (by kernel_rfl) (by kernel_rfl)) (by kernel_rfl) (by kernel_rfl)

theorem tab_list : (List.range 64).map (fun k => cellAt (H := Unit) Tryd.prog 3 73 Rows.laid_math_bits_deBruijn64tab k) = (List.range 64).map (fun k => some (Value.int .u8 (Lib.deBruijn64tab.getD k 0))) := by kernel_rfl
theorem tab_cells (k : Nat) (hk : k < 64) : cellAt (H := Unit) Tryd.prog 3 73 Rows.laid_math_bits_deBruijn64tab k = some (.int .u8 (Lib.deBruijn64tab.getD k 0)) :=
  List.map_inj_left.1 tab_list k (List.mem_range.2 hk)

theorem of_laid {W : World} (h : laidMetH Tryd.prog [("math/bits.deBruijn64tab", Rows.laid_math_bits_deBruijn64tab)] W) : TabAt W := by
  rw [MakeChecks.laidMetH_plain _ _ _ (by kernel_rfl)] at h
  obtain ⟨ps, ⟨g0, t0, cs0, f0, p0, q0, hg0, ht0, hv0, hd0, _, _⟩, _, _⟩ := h
  obtain rfl := Option.some.inj (gTab.symm.trans hg0)
  obtain rfl := Option.some.inj (tTab.symm.trans ht0)
  intro k hk
  have h1 := World.var?_cell hg0 hv0 k
  have h2 := cellAt_of 3 _ _ _ _ _ k _ hd0 (tab_cells k hk)
  rw [h1]
  simpa using h2

theorem open_size {H : Type} {enc : TypeId × Value → H} {W : World} {r : Reach} {b0 : Nat} {v : Value} {d : DataW H} {ps : List MemPlace} (hval : Value.okWide Tryd.prog W r b0 23 v)
    (h : DataW.Trod enc Tryd.prog W 0 (fun _ => true) true 23 v d ps) : ∃ f r : Int, v = .agg #[.int .i64 f, .int .i64 r] := by
  obtain ⟨cs, rfl, hsz⟩ := okWide_struct Tryd.underlying23 hval
  obtain ⟨fuel, h⟩ := h
  obtain ⟨X, hX⟩ := struct_ints (ks := fun _ => .i64) Tryd.underlying23 (by kernel_rfl) (fun j f hj => by
    match j, hj with
    | 0, hj => obtain rfl := Option.some.inj hj; exact Tryd.underlying3
    | 1, hj => obtain rfl := Option.some.inj hj; exact Tryd.underlying3) h
  have hs2 : cs.size = 2 := hsz.trans (by kernel_rfl)
  have h0 := (hX 0 (by decide)).1
  have h1 := (hX 1 (by decide)).1
  refine ⟨X 0, X 1, ?_⟩
  obtain ⟨l⟩ := cs
  match l, hs2, h0, h1 with
  | [a, b], _, h0, h1 =>
    simp [Value.cells] at h0 h1
    rw [h0, h1]
end Go.Proofs.YtjjchodcoeciaaaDoor
