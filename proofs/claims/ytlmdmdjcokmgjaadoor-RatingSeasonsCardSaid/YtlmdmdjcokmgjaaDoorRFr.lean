/- The frame of the cards of layer 45: the table of limits out of the row's condition; lists of games that came in. -/
import Derived.Test.YtlmdmdjcokmgjaaDoorRows
import Derived.Test.YtlmdmdjcokmgjaaDoorFlat
import Derived.Test.YtlmdmdjcokmgjaaDoorSl
import Derived.Test.YtlmdmdjcokmgjaaDoorRc
import Derived.LaidMore
import Derived.Stop.Joined
import Derived.Carry
namespace Go.Proofs.YtlmdmdjcokmgjaaDoor
open Go.ChangeShapes Go.WideShapes Go.ChangeAt Go.RowKit
set_option linter.unusedVariables false

theorem own : ownKnob Tryd.prog.godebug = none := by kernel_rfl
theorem laidOut : laidOutB Tryd.prog = true := by kernel_rfl
theorem gLims : Tryd.prog.globalNamed "caissa/rating.limits" = some 0 := by kernel_rfl
theorem tLims : (Tryd.prog.globals[0]?).map (·.type) = some 53 := by kernel_rfl

theorem door_met (os : Os) (args : Array Value) : laidMetH Tryd.prog [("caissa/rating.limits", Rows.laid_caissa_rating_limits)] ((World.doorLaid Tryd.prog 400 os).forCall (fun _ _ => 0) ⟨#[], args, []⟩).memory :=
  laidMetH_of_parts3 (fuel := 8) (laidMet_of_run' 8 (by kernel_rfl) (by kernel_rfl)) (by kernel_rfl) (by kernel_rfl)

theorem lims_list : (List.range 42).map (fun k => cellAt (H := Unit) Tryd.prog 3 53 Rows.laid_caissa_rating_limits k) = (List.range 42).map (fun k => some (Value.int .i64 (limAt k))) := by kernel_rfl
theorem lims_cells (k : Nat) (hk : k < 42) : cellAt (H := Unit) Tryd.prog 3 53 Rows.laid_caissa_rating_limits k = some (.int .i64 (limAt k)) :=
  List.map_inj_left.1 lims_list k (List.mem_range.2 hk)

theorem of_laid {W : World} (h : laidMetH Tryd.prog [("caissa/rating.limits", Rows.laid_caissa_rating_limits)] W) : LimsAt W := by
  rw [MakeChecks.laidMetH_plain _ _ _ (by kernel_rfl)] at h
  obtain ⟨ps, ⟨g0, t0, cs0, f0, p0, q0, hg0, ht0, hv0, hd0, _, _⟩, _, _⟩ := h
  obtain rfl := Option.some.inj (gLims.symm.trans hg0)
  obtain rfl := Option.some.inj (tLims.symm.trans ht0)
  obtain ⟨xs, m, rfl, ee, hl, hx, hf⟩ := DataW.trod_array Tryd.underlying53 hd0
  have hc : ∀ i, i < 42 → cs0[i]? = some (.int .i64 (limAt i)) := fun i hi => by
    have h2 := cellAt_of 3 _ _ _ _ _ i _ hd0 (lims_cells i hi)
    simpa using h2
  have hsz : cs0.size = 42 := by
    have : cs0.toList.length = 42 := hl.trans (by kernel_rfl)
    simpa using this
  have he : cs0 = limCells := by
    apply Array.ext
    · rw [hsz]; rfl
    · intro i h1 h2
      have h3 := hc i (by omega)
      have h4 := limCells_at i (by omega)
      rw [Array.getElem?_eq_getElem h1] at h3
      rw [Array.getElem?_eq_getElem h2] at h4
      exact Option.some.inj (h3.trans h4.symm)
  subst he
  simp only [World.var?, gLims, Option.bind_some] at hv0
  split at hv0
  · rename_i cs t fr hh
    obtain rfl := Option.some.inj hv0
    exact ⟨t, fr, hh⟩
  · cases hv0

theorem open_games {H : Type} {enc : TypeId × Value → H} {W : World} {r : Reach} {b0 : Nat} {v : Value} {d : DataW H} {ps : List MemPlace} (hval : Value.okWide Tryd.prog W r b0 29 v)
    (h : DataW.Trod enc Tryd.prog W 0 (fun _ => true) true 29 v d ps) : ∃ A l c, v = .slice A (List.length l) c ∧ GamesAt W W.heap.size A l ∧ l.length ≤ c ∧ c ≤ maxLen := by
  obtain ⟨A, n, c, X, rfl, hn, hm, hX⟩ := slice_structs (ks := fun _ => .i64) Tryd.underlying29 Tryd.underlying31 (by kernel_rfl) (by kernel_rfl) (fun j f hj => by
    match j, hj with
    | 0, hj => obtain rfl := Option.some.inj hj; exact Tryd.underlying3
    | 1, hj => obtain rfl := Option.some.inj hj; exact Tryd.underlying3) (by decide) hval h
  have hl : ((List.range n).map fun i => (X i 0, X i 1)).length = n := by simp
  have hg : ∀ k, k < n → gameAt ((List.range n).map fun i => (X i 0, X i 1)) k = (X k 0, X k 1) := fun k hk => by
    unfold gameAt
    simp [List.getD, hk]
  refine ⟨A, (List.range n).map fun i => (X i 0, X i 1), c, by rw [hl], fun h0 => ?_, by rw [hl]; exact hn, hm⟩
  obtain ⟨b, off, e, hb, hc⟩ := hX (by omega)
  refine ⟨b, off, e, hb, fun k hk => ?_⟩
  rw [hl] at hk
  rw [hg k hk]
  exact ⟨(hc k hk 0 (by decide)).1, (hc k hk 1 (by decide)).1⟩
end Go.Proofs.YtlmdmdjcokmgjaaDoor
