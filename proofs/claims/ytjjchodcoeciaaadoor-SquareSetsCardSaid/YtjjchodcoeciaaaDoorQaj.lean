/- Layer 1: the law on sets, all cases; a list of numbers that came in. -/
import Derived.Test.YtjjchodcoeciaaaDoorQah
import Derived.Test.YtjjchodcoeciaaaDoorQai
import Derived.Test.YtjjchodcoeciaaaDoorQFr
namespace Go.Proofs.YtjjchodcoeciaaaDoor
open Go.ChangeShapes Go.WideShapes Go.ChangeAt Go.RowKit
set_option linter.unusedVariables false

theorem law_sets (f r : Int) (A : Option Addr) (l : List Int) (cap : Nat) (s a many : Int) (w : World) (hT : TabAt w) (hg : RecAt iEnc 1 w w.heap.size A l) (hl : l.length ≤ maxLen) (hw : (Lit.int .u64 s).wf = true) :
    Calls Tryd.prog 9 #[.agg #[.int .i64 f, .int .i64 r], .slice A l.length cap, .int .u64 s, .int .i64 a, .int .i64 many] w fun e w' => e = .returned (.bool true) ∧ Below w.heap.size w w' := by
  obtain ⟨s0, s1⟩ := wf_u64 hw
  obtain ⟨m, rfl⟩ : ∃ m : Nat, s = (m : Int) := ⟨s.toNat, by omega⟩
  have hm : m < 18446744073709551616 := by omega
  by_cases h : 70 < l.length
  · exact sets_long f r A l.length cap (m : Int) a many w hT h hl
  · cases hgood : goodK f r l l.length
    · exact sets_bad f r A l cap m a many w hT hg (by omega) hm hgood
    · exact sets_good f r A l cap m a many w hT hg (by omega) hm hgood

theorem open_ints {H : Type} {enc : TypeId × Value → H} {W : World} {r : Reach} {b0 : Nat} {v : Value} {d : DataW H} {ps : List MemPlace} (hval : Value.okWide Tryd.prog W r b0 62 v)
    (h : DataW.Trod enc Tryd.prog W 0 (fun _ => true) true 62 v d ps) : ∃ (A : Option Addr) (l : List Int) (c : Nat), v = .slice A l.length c ∧ RecAt iEnc 1 W W.heap.size A l ∧ l.length ≤ c ∧ c ≤ maxLen := by
  obtain ⟨A, n, c, X, rfl, hn, hc, hX⟩ := slice_ints (k := .i64) Tryd.underlying62 Tryd.underlying3 (by kernel_rfl) hval h
  refine ⟨A, (List.range n).map X, c, by simp, ?_, by simpa using hn, hc⟩
  intro hl
  have hn0 : 0 < n := by simpa using hl
  obtain ⟨b, off, rfl, hb, hcell⟩ := hX hn0
  refine ⟨b, off, rfl, hb, fun k x hk j u hu => ?_⟩
  obtain ⟨hk1, hk2⟩ := List.getElem?_eq_some_iff.1 hk
  have hkn : k < n := by simpa using hk1
  simp at hk2
  subst hk2
  match j, hu with
  | 0, hu =>
    obtain rfl := Option.some.inj hu
    have := (hcell k hkn).1
    simpa using this
end Go.Proofs.YtjjchodcoeciaaaDoor
