/- The frame of the cards of layer 7: the kinds out of the row's condition, the library's own variable out of the world's shape; sizes and moves that came in. -/
import Derived.Test.YtlnphcdanadaeaaDoorRows
import Derived.Test.YtlnphcdanadaeaaDoorFlat
import Derived.Test.YtlnphcdanadaeaaDoorSl
import Derived.Test.YtlnphcdanadaeaaDoorMk
import Derived.WalkKit
import Derived.ProofKit
import Derived.OpenShut
import Derived.LaidMore
import Derived.Stop.Joined
import Derived.Carry
import Derived.Handed
import Derived.Lay
namespace Go.Proofs.YtlnphcdanadaeaaDoor
open Go Go.ChangeShapes Go.WideShapes Go.ChangeAt Go.RowKit
set_option linter.unusedVariables false

section
variable {H : Type} {enc : TypeId × Value → H}
/-- as the kit's rule for a row with a further condition; the world's shape is handed on -/
theorem handed_open {a : Assume} {C : Checked} {os : Os} {f : FuncId} {fn : Func} {s : ChangeSpec} {conds : List PathCond} {apart fresh handsOn again : Bool} {X : World → Array Value → Prop}
    (hX : ∀ (w w' : World) (args : Array Value), w.heap = w'.heap → X w args → X w' args)
    (own : ownKnob C.prog.godebug = none) (started : os.Started) (noInit : C.prog.inits.idxOf? f = none) (hfn : C.prog.funcs[f]? = some fn)
    (witness : ∃ (w : World) (tape : Tape) (i : Input), w.os = os ∧ (w.forCall tape i).Shaped C.prog ∧ i.vars = [] ∧ Input.okWide C.prog (w.forCall tape i) .any w.heap.size f i ∧
      ((s.pre enc C.prog fn conds apart (w.forCall tape i).memory i.args ∧ X (w.forCall tape i).memory i.args) ∧ sizedMet enc C.prog fn (OpenSpec.ofChange s) apart (w.forCall tape i).memory i.args) ∧ a.holds C.prog (lone (Frame.enter C.prog f i.args .normal) [] (w.forCall tape i)))
    (walk : ∀ (W : World), W.ShapedOpen C.prog → ∀ (base : Nat) (args : Array Value) (ds gs : List (DataW H)) (before : List MemPlace),
      (∀ (j : Nat) t v, fn.params[j]? = some t → args[j]? = some v → Value.okWide C.prog W .any base t v) →
      DataW.Whole enc C.prog fn.params.toList s.vars apart W args.toList ds gs before → X W args →
      Calls C.prog f args W fun e W' => ∃ v, e = .returned v ∧ s.post enc C.prog fn apart fresh handsOn again W args v W') :
    ReturnsInHanded a C os f .any (fun w args => (s.pre enc C.prog fn conds apart w args ∧ X w args) ∧ sizedMet enc C.prog fn (OpenSpec.ofChange s) apart w args) (s.post enc C.prog fn apart fresh handsOn again) := by
  refine returnsInHanded_of_calls own started noInit witness fun w tape i _ hso _ hok hpre _ => ?_
  obtain ⟨_, _, _, fn', hfn', _, _, _, _, hval⟩ := hok
  obtain rfl : fn' = fn := Option.some.inj (hfn'.symm.trans hfn)
  obtain ⟨⟨⟨ds, gs, before, hw, _⟩, hx⟩, _⟩ := hpre
  refine (walk (w.forCall tape i) hso w.heap.size i.args ds gs before hval (DataW.Whole.of_heap (w' := w.forCall tape i) (by rfl) hw) (hX _ _ _ (by rfl) hx)).mono fun e W' ⟨v, he, hp⟩ => ?_
  subst he
  exact ChangeSpec.post_blind hp
end

theorem own : ownKnob Tryd.prog.godebug = none := by kernel_rfl
theorem laidOut : laidOutB Tryd.prog = true := by kernel_rfl
theorem gKinds : Tryd.prog.globalNamed "caissa/piece.kinds" = some 0 := by kernel_rfl
theorem tKinds : (Tryd.prog.globals[0]?).map (·.type) = some 73 := by kernel_rfl

/-- what the row lists -/
def theLaid : List (String × DataW Unit) := [("caissa/piece.kinds", Rows.laid_caissa_piece_kinds), ("unicode/utf8.acceptRanges", Rows.laid_unicode_utf8_acceptRanges), ("unicode/utf8.first", Rows.laid_unicode_utf8_first)]
theorem lay_met (os : Os) (args : Array Value) : laidMetH Tryd.prog theLaid ((World.laidAll Tryd.prog os theLaid).forCall (fun _ _ => 0) ⟨#[], args, []⟩).memory := by
  rw [MakeChecks.laidMetH_plain _ _ _ (by kernel_rfl)]
  exact laidMet_laidAll _ (by kernel_rfl) (by kernel_rfl)

theorem kinds_cells : ∀ k, k < 15 → cellAt (H := Unit) Tryd.prog 3 73 Rows.laid_caissa_piece_kinds (k * 3) = some (.int .u8 (PC.letAt k)) ∧
    cellAt (H := Unit) Tryd.prog 3 73 Rows.laid_caissa_piece_kinds (k * 3 + 1) = some (.int .i64 (PC.valAt k)) ∧
    cellAt (H := Unit) Tryd.prog 3 73 Rows.laid_caissa_piece_kinds (k * 3 + 2) = some (.string ⟨(PC.namAt k).toArray⟩) := by
  intro k h
  obtain rfl | rfl | rfl | rfl | rfl | rfl | rfl | rfl | rfl | rfl | rfl | rfl | rfl | rfl | rfl : k = 0 ∨ k = 1 ∨ k = 2 ∨ k = 3 ∨ k = 4 ∨ k = 5 ∨ k = 6 ∨ k = 7 ∨ k = 8 ∨ k = 9 ∨ k = 10 ∨ k = 11 ∨ k = 12 ∨ k = 13 ∨ k = 14 := by omega
  all_goals exact ⟨by kernel_rfl, by kernel_rfl, by kernel_rfl⟩

theorem of_laid {W : World} (h : laidMetH Tryd.prog theLaid W) (hO : W.ShapedOpen Tryd.prog) : EnvAt W := by
  rw [MakeChecks.laidMetH_plain _ _ _ (by kernel_rfl)] at h
  obtain ⟨ps, ⟨g0, t0, cs0, f0, p0, q0, hg0, ht0, hv0, hd0, _, _⟩, _, _⟩ := h
  obtain rfl := Option.some.inj (gKinds.symm.trans hg0)
  obtain rfl := Option.some.inj (tKinds.symm.trans ht0)
  have hc : ∀ i v, cellAt (H := Unit) Tryd.prog 3 73 Rows.laid_caissa_piece_kinds i = some v → W.cell? ⟨0, i, none⟩ = some v := fun i v hi => by
    have h1 := World.var?_cell hg0 hv0 i
    have h2 := cellAt_of 3 _ _ _ _ _ i v hd0 hi
    rw [h1]
    simpa using h2
  have h0 := hc _ _ (kinds_cells 0 (by decide)).1
  obtain ⟨m, hm⟩ := sh_laysM146.s1_3 W hO
  refine ⟨⟨fun k h => hc _ _ (kinds_cells k h).1, fun k h => hc _ _ (kinds_cells k h).2.1, fun k h => hc _ _ (kinds_cells k h).2.2, ?_⟩, ⟨m, hm⟩, cell_lt (a := ⟨1, 0, none⟩) hm⟩
  exact Nat.pos_of_ne_zero fun e => by
    simp [World.cell?, e] at h0

set_option maxRecDepth 100000 in
theorem open_size {H : Type} {enc : TypeId × Value → H} {W : World} {r : Reach} {b0 : Nat} {v : Value} {d : DataW H} {ps : List MemPlace} (hval : Value.okWide Tryd.prog W r b0 23 v)
    (h : DataW.Trod enc Tryd.prog W 0 (fun _ => true) true 23 v d ps) : ∃ f r : Int, v = .agg #[.int .i64 f, .int .i64 r] := by
  obtain ⟨cs, rfl, hsz⟩ := okWide_struct Tryd.underlying23 hval
  obtain ⟨fuel, h⟩ := h
  obtain ⟨X, hX⟩ := struct_ints (ks := fun _ => .i64) Tryd.underlying23 (by kernel_rfl) (fun j f hj => by
    match j, hj with
    | 0, hj => obtain rfl := Option.some.inj hj; exact Tryd.underlying3
    | 1, hj => obtain rfl := Option.some.inj hj; exact Tryd.underlying3) h
  have hs2 : cs.size = 2 := hsz.trans (by kernel_rfl)
  have h0 := (hX 0 (by decide)).1
  have h1 := (hX 1 (by decide)).1
  refine ⟨X 0, X 1, ?_⟩
  obtain ⟨l⟩ := cs
  match l, hs2, h0, h1 with
  | [a, b], _, h0, h1 =>
    simp [Value.cells] at h0 h1
    rw [h0, h1]
def kindM (j : Nat) : IntKind := if j = 2 then .i8 else .i64
theorem wf_i8 {n : Int} (h : (Lit.int .i8 n).wf = true) : -128 ≤ n ∧ n ≤ 127 := by
  unfold Lit.wf at h
  rw [Bool.and_eq_true, decide_eq_true_eq, decide_eq_true_eq] at h
  rw [show IntKind.i8.min = -128 by rfl, show IntKind.i8.max = 127 by rfl] at h
  exact h
set_option maxRecDepth 100000 in
theorem open_move {H : Type} {enc : TypeId × Value → H} {W : World} {r : Reach} {b0 : Nat} {v : Value} {d : DataW H} {ps : List MemPlace} (hval : Value.okWide Tryd.prog W r b0 27 v)
    (h : DataW.Trod enc Tryd.prog W 0 (fun _ => true) true 27 v d ps) : ∃ a b p : Int, v = .agg #[.int .i64 a, .int .i64 b, .int .i8 p] ∧ -128 ≤ p ∧ p ≤ 127 := by
  obtain ⟨cs, rfl, hsz⟩ := okWide_struct Tryd.underlying27 hval
  obtain ⟨fuel, h⟩ := h
  obtain ⟨X, hX⟩ := struct_ints (ks := kindM) Tryd.underlying27 (by kernel_rfl) (fun j f hj => by
    match j, hj with
    | 0, hj => obtain rfl := Option.some.inj hj; exact Tryd.underlying3
    | 1, hj => obtain rfl := Option.some.inj hj; exact Tryd.underlying3
    | 2, hj => obtain rfl := Option.some.inj hj; exact Tryd.underlying25) h
  have hs3 : cs.size = 3 := hsz.trans (by kernel_rfl)
  have h0 := (hX 0 (by decide)).1
  have h1 := (hX 1 (by decide)).1
  have h2 := (hX 2 (by decide)).1
  have w2 := wf_i8 (hX 2 (by decide)).2
  refine ⟨X 0, X 1, X 2, ?_, w2.1, w2.2⟩
  obtain ⟨l⟩ := cs
  match l, hs3, h0, h1, h2 with
  | [a, b, c], _, h0, h1, h2 =>
    simp [Value.cells, kindM] at h0 h1 h2
    rw [h0, h1, h2]
end Go.Proofs.YtlnphcdanadaeaaDoor
