/- The frame of the cards of layer 3: the kinds out of the row's condition, the library's own variable out of the world's shape; boards that came in. -/
import Derived.Test.YtjglpphfkkabnaaDoorRows
import Derived.Test.YtjglpphfkkabnaaDoorFlat
import Derived.Test.YtjglpphfkkabnaaDoorSl
import Derived.Test.YtjglpphfkkabnaaDoorBm
import Derived.WalkKit
import Derived.ProofKit
import Derived.OpenShut
import Derived.LaidMore
import Derived.Stop.Joined
import Derived.Carry
import Derived.Handed
import Derived.Lay
namespace Go.Proofs.YtjglpphfkkabnaaDoor
open Go Go.ChangeShapes Go.WideShapes Go.ChangeAt Go.RowKit
set_option linter.unusedVariables false

section
variable {H : Type} {enc : TypeId × Value → H}
/-- as the kit's rule for a row with a further condition; the world's shape is handed on -/
theorem handed_open {a : Assume} {C : Checked} {os : Os} {f : FuncId} {fn : Func} {s : ChangeSpec} {conds : List PathCond} {apart fresh handsOn again : Bool} {X : World → Array Value → Prop}
    (hX : ∀ (w w' : World) (args : Array Value), w.heap = w'.heap → X w args → X w' args)
    (own : ownKnob C.prog.godebug = none) (started : os.Started) (noInit : C.prog.inits.idxOf? f = none) (hfn : C.prog.funcs[f]? = some fn)
    (witness : ∃ (w : World) (tape : Tape) (i : Input), w.os = os ∧ (w.forCall tape i).Shaped C.prog ∧ i.vars = [] ∧ Input.okWide C.prog (w.forCall tape i) .any w.heap.size f i ∧
      ((s.pre enc C.prog fn conds apart (w.forCall tape i).memory i.args ∧ X (w.forCall tape i).memory i.args) ∧ sizedMet enc C.prog fn (OpenSpec.ofChange s) apart (w.forCall tape i).memory i.args) ∧ a.holds C.prog (lone (Frame.enter C.prog f i.args .normal) [] (w.forCall tape i)))
    (walk : ∀ (W : World), W.ShapedOpen C.prog → ∀ (base : Nat) (args : Array Value) (ds gs : List (DataW H)) (before : List MemPlace),
      (∀ (j : Nat) t v, fn.params[j]? = some t → args[j]? = some v → Value.okWide C.prog W .any base t v) →
      DataW.Whole enc C.prog fn.params.toList s.vars apart W args.toList ds gs before → X W args →
      Calls C.prog f args W fun e W' => ∃ v, e = .returned v ∧ s.post enc C.prog fn apart fresh handsOn again W args v W') :
    ReturnsInHanded a C os f .any (fun w args => (s.pre enc C.prog fn conds apart w args ∧ X w args) ∧ sizedMet enc C.prog fn (OpenSpec.ofChange s) apart w args) (s.post enc C.prog fn apart fresh handsOn again) := by
  refine returnsInHanded_of_calls own started noInit witness fun w tape i _ hso _ hok hpre _ => ?_
  obtain ⟨_, _, _, fn', hfn', _, _, _, _, hval⟩ := hok
  obtain rfl : fn' = fn := Option.some.inj (hfn'.symm.trans hfn)
  obtain ⟨⟨⟨ds, gs, before, hw, _⟩, hx⟩, _⟩ := hpre
  refine (walk (w.forCall tape i) hso w.heap.size i.args ds gs before hval (DataW.Whole.of_heap (w' := w.forCall tape i) (by rfl) hw) (hX _ _ _ (by rfl) hx)).mono fun e W' ⟨v, he, hp⟩ => ?_
  subst he
  exact ChangeSpec.post_blind hp
end

theorem own : ownKnob Tryd.prog.godebug = none := by kernel_rfl
theorem laidOut : laidOutB Tryd.prog = true := by kernel_rfl
theorem gKinds : Tryd.prog.globalNamed "caissa/piece.kinds" = some 0 := by kernel_rfl
theorem tKinds : (Tryd.prog.globals[0]?).map (·.type) = some 90 := by kernel_rfl

/-- what the row lists -/
def theLaid : List (String × DataW Unit) := [("caissa/piece.kinds", Rows.laid_caissa_piece_kinds), ("unicode/utf8.acceptRanges", Rows.laid_unicode_utf8_acceptRanges), ("unicode/utf8.first", Rows.laid_unicode_utf8_first)]
theorem lay_met (os : Os) (args : Array Value) : laidMetH Tryd.prog theLaid ((World.laidAll Tryd.prog os theLaid).forCall (fun _ _ => 0) ⟨#[], args, []⟩).memory := by
  rw [MakeChecks.laidMetH_plain _ _ _ (by kernel_rfl)]
  exact laidMet_laidAll _ (by kernel_rfl) (by kernel_rfl)

theorem kinds_cells : ∀ k, k < 15 → cellAt (H := Unit) Tryd.prog 3 90 Rows.laid_caissa_piece_kinds (k * 3) = some (.int .u8 (PC.letAt k)) ∧
    cellAt (H := Unit) Tryd.prog 3 90 Rows.laid_caissa_piece_kinds (k * 3 + 1) = some (.int .i64 (PC.valAt k)) ∧
    cellAt (H := Unit) Tryd.prog 3 90 Rows.laid_caissa_piece_kinds (k * 3 + 2) = some (.string ⟨(PC.namAt k).toArray⟩) := by
  intro k h
  obtain rfl | rfl | rfl | rfl | rfl | rfl | rfl | rfl | rfl | rfl | rfl | rfl | rfl | rfl | rfl : k = 0 ∨ k = 1 ∨ k = 2 ∨ k = 3 ∨ k = 4 ∨ k = 5 ∨ k = 6 ∨ k = 7 ∨ k = 8 ∨ k = 9 ∨ k = 10 ∨ k = 11 ∨ k = 12 ∨ k = 13 ∨ k = 14 := by omega
  all_goals exact ⟨by kernel_rfl, by kernel_rfl, by kernel_rfl⟩

theorem of_laid {W : World} (h : laidMetH Tryd.prog theLaid W) (hO : W.ShapedOpen Tryd.prog) : EnvAt W := by
  rw [MakeChecks.laidMetH_plain _ _ _ (by kernel_rfl)] at h
  obtain ⟨ps, ⟨g0, t0, cs0, f0, p0, q0, hg0, ht0, hv0, hd0, _, _⟩, _, _⟩ := h
  obtain rfl := Option.some.inj (gKinds.symm.trans hg0)
  obtain rfl := Option.some.inj (tKinds.symm.trans ht0)
  have hc : ∀ i v, cellAt (H := Unit) Tryd.prog 3 90 Rows.laid_caissa_piece_kinds i = some v → W.cell? ⟨0, i, none⟩ = some v := fun i v hi => by
    have h1 := World.var?_cell hg0 hv0 i
    have h2 := cellAt_of 3 _ _ _ _ _ i v hd0 hi
    rw [h1]
    simpa using h2
  have h0 := hc _ _ (kinds_cells 0 (by decide)).1
  obtain ⟨m, hm⟩ := sh_laysM146.s1_3 W hO
  refine ⟨⟨fun k h => hc _ _ (kinds_cells k h).1, fun k h => hc _ _ (kinds_cells k h).2.1, fun k h => hc _ _ (kinds_cells k h).2.2, ?_⟩, ⟨m, hm⟩, cell_lt (a := ⟨1, 0, none⟩) hm⟩
  exact Nat.pos_of_ne_zero fun e => by
    simp [World.cell?, e] at h0

theorem wf_i8 {n : Int} (h : (Lit.int .i8 n).wf = true) : -128 ≤ n ∧ n ≤ 127 := by
  unfold Lit.wf at h
  rw [Bool.and_eq_true, decide_eq_true_eq, decide_eq_true_eq] at h
  rw [show IntKind.i8.min = -128 by rfl, show IntKind.i8.max = 127 by rfl] at h
  exact h
section
variable {H : Type} {enc : TypeId × Value → H} {P : Program} {w : World} {base : Nat} {spare : Nat → Bool} {held : Bool}
open Go.Deep
/-- the cells of a slice of integers -/
theorem cells_ints {t e : TypeId} {k : IntKind} {cs : List Value} {x : DataW H × List MemPlace} {fuel : Nat} (ht : P.underlying t = some (.slice e)) (he : P.underlying e = some (.int k))
    (hC : P.cellsOf e = 1) (hf : DataW.trod enc P w base spare held fuel t cs = some x) :
    ∃ (A : Option Addr) (n c : Nat) (X : Nat → Int), cs = [.slice A n c] ∧ n ≤ c ∧ c ≤ maxLen ∧
      (0 < n → ∃ b off, A = some ⟨b, off, none⟩ ∧ b < w.heap.size ∧ ∀ i, i < n → w.cell? ⟨b, off + i, none⟩ = some (.int k (X i)) ∧ (Lit.int k (X i)).wf = true) := by
  rcases open_slice ht hf with ⟨hcs, hx⟩ | ⟨a, l0, c0, m, n, D, Pl, hcs, hb, hl, hm, hmm, hx, hi⟩
  · exact ⟨none, 0, 0, fun _ => 0, hcs, Nat.le_refl _, Nat.zero_le _, fun h => absurd h (by omega)⟩
  · have hlm : l0 ≤ m := by rw [hmm]; split <;> omega
    obtain ⟨X, hX⟩ := choose_lt (α := Int) (n := l0) (p := fun i x => w.cell? (a.add i) = some (.int k x) ∧ (Lit.int k x).wf = true) (fun i hil => by
      obtain ⟨cs', h1, h2⟩ := hi i (by omega)
      obtain ⟨x, hc, _, hw⟩ := DataW.trod_int he h2
      obtain ⟨_, hlen, hat⟩ := World.cells?_some h1
      refine ⟨x, ?_, hw⟩
      have h3 := hat 0 (by omega)
      rw [hc, hC, add_add, Nat.mul_one, Nat.add_zero] at h3
      exact h3)
    refine ⟨some a, l0, c0, X, hcs, hl, hm, fun h0' => ?_⟩
    have hc0 := (hX 0 h0').1
    have hp : a = ⟨a.block, a.off, none⟩ := by
      have := addr_plain (a := a) (w := w) (by simpa [Addr.add] using hc0)
      exact this
    have hlt : a.block < w.heap.size := by
      have := cell_lt (a := a) (w := w) (by simpa [Addr.add] using hc0)
      exact this
    refine ⟨a.block, a.off, by rw [← hp], hlt, fun i hi' => ⟨?_, (hX i hi').2⟩⟩
    have h4 := (hX i hi').1
    rw [hp] at h4
    have e : (⟨a.block, a.off, none⟩ : Addr).add i = ⟨a.block, a.off + i, none⟩ := by
      unfold Addr.add
      split
      · rename_i h5; simp only [Addr.mk.injEq, and_true, true_and]; omega
      · rfl
    rwa [e] at h4
end
set_option maxRecDepth 100000 in
theorem open_board {H : Type} {enc : TypeId × Value → H} {W : World} {r : Reach} {b0 : Nat} {v : Value} {d : DataW H} {ps : List MemPlace} (hval : Value.okWide Tryd.prog W r b0 26 v)
    (h : DataW.Trod enc Tryd.prog W 0 (fun _ => true) true 26 v d ps) : ∃ (f r : Int) (A : Option Addr) (l : List Int) (c : Nat), v = bV f r A (List.length l) c ∧ PcsAt W W.heap.size A l ∧ l.length ≤ maxLen ∧ ∀ p, p ∈ l → -128 ≤ p ∧ p ≤ 127 := by
  obtain ⟨cs, rfl, hsz⟩ := okWide_struct Tryd.underlying26 hval
  obtain ⟨fuel, h⟩ := h
  obtain ⟨y0, y1, n, _, _, h0, h1⟩ := trod_struct2 Tryd.underlying26 h
  obtain ⟨X, hX⟩ := struct_ints (ks := fun _ => .i64) Tryd.underlying23 (by kernel_rfl) (fun j f hj => by
    match j, hj with
    | 0, hj => obtain rfl := Option.some.inj hj; exact Tryd.underlying3
    | 1, hj => obtain rfl := Option.some.inj hj; exact Tryd.underlying3) h0
  obtain ⟨A, m, c, Y, hcs, hm, hc, hY⟩ := cells_ints Tryd.underlying24 Tryd.underlying28 (by kernel_rfl) h1
  have hs3 : cs.size = 3 := hsz.trans (by kernel_rfl)
  have e0 := (hX 0 (by decide)).1
  have e1 := (hX 1 (by decide)).1
  rw [show Tryd.prog.cellsOf 23 = 2 by kernel_rfl] at e0 e1
  rw [show Tryd.prog.cellsOf 24 = 1 by kernel_rfl] at hcs
  have hl : ((List.range m).map fun i => Y i).length = m := by simp
  refine ⟨X 0, X 1, A, (List.range m).map fun i => Y i, c, ?_, fun hp => ?_, by rw [hl]; omega, fun p hp => ?_⟩
  · rw [hl]
    obtain ⟨l⟩ := cs
    match l, hs3, e0, e1, hcs with
    | [a, b, z], _, e0, e1, hcs =>
      simp [Value.cells] at e0 e1 hcs
      rw [e0, e1, hcs]
  · obtain ⟨b, off, e, hb, hk⟩ := hY (by omega)
    refine ⟨b, off, e, hb, fun k x hx j u hu => ?_⟩
    have hkm : k < m := by
      have := (List.getElem?_eq_some_iff.1 hx).1
      omega
    obtain rfl : x = Y k := by
      rw [List.getElem?_map, List.getElem?_range hkm] at hx
      exact (Option.some.inj hx).symm
    match j, hu with
    | 0, hu => rw [show u = .int .i8 (Y k) from (Option.some.inj hu).symm, Nat.mul_one]; exact (hk k hkm).1
    | (j + 1), hu => simp [qEnc] at hu
  · obtain ⟨i, hi, rfl⟩ := List.mem_map.1 hp
    have him := List.mem_range.1 hi
    obtain ⟨b, off, e, hb, hk⟩ := hY (by omega)
    exact wf_i8 (hk i him).2
end Go.Proofs.YtjglpphfkkabnaaDoor
