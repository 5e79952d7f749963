/- The frame of the laws of layer 35: sizes and trees that came in, opened to their cells. -/
import Derived.Test.YteaclphankckiaaRows
import Derived.Test.YteaclphankckiaaSl
import Derived.Test.YteaclphankckiaaTa
import Derived.Test.YteaclphankckiaaTs
import Derived.WalkKit
import Derived.ProofKit
import Derived.OpenShut
import Derived.Handed
namespace Go.Proofs.Yteaclphankckiaa
open Go Go.ChangeShapes Go.WideShapes Go.ChangeAt Go.RowKit
set_option linter.unusedVariables false
theorem own : ownKnob Try.prog.godebug = none := by kernel_rfl

section
variable {H : Type} {enc : TypeId × Value → H} {P : Program} {w : World} {base : Nat} {spare : Nat → Bool} {held : Bool}
open Go.Deep
/-- a slice whose elements read as records -/
theorem slice_recs {α : Type} [Inhabited α] {E : α → List Value} {Q : α → Prop} {r : Reach} {b0 : Nat} {t e : TypeId} {v : Value} {d : DataW H} {ps : List MemPlace} (ht : P.underlying t = some (.slice e))
    (hl : ∀ x, (E x).length = P.cellsOf e) (hE : ∀ m cs x, DataW.trod enc P w base spare held m e cs = some x → ∃ y, cs = E y ∧ Q y) (hp0 : 0 < P.cellsOf e)
    (hval : Value.okWide P w r b0 t v) (h : DataW.Trod enc P w base spare held t v d ps) :
    ∃ (A : Option Addr) (n c : Nat) (X : Nat → α), v = .slice A n c ∧ n ≤ c ∧ c ≤ maxLen ∧ (∀ i, i < n → Q (X i)) ∧
      (0 < n → ∃ b off, A = some ⟨b, off, none⟩ ∧ b < w.heap.size ∧ ∀ i, i < n → ∀ j u, (E (X i))[j]? = some u → w.cell? ⟨b, off + i * P.cellsOf e + j, none⟩ = some u) := by
  obtain ⟨a0, l0, c0, rfl⟩ := okWide_slice ht hval
  obtain ⟨fuel, hf⟩ := h
  rcases open_slice ht hf with ⟨hcs, hx⟩ | ⟨a, len, cap, m, n, D, Pl, hcs, hb, hl0, hm, hmm, hx, hi⟩
  · simp [Value.cells] at hcs
    obtain ⟨rfl, rfl, rfl⟩ := hcs
    exact ⟨none, 0, 0, fun _ => default, rfl, Nat.le_refl _, Nat.zero_le _, fun i hi => absurd hi (by omega), fun h => absurd h (by omega)⟩
  · simp [Value.cells] at hcs
    obtain ⟨rfl, rfl, rfl⟩ := hcs
    have hlm : l0 ≤ m := by rw [hmm]; split <;> omega
    obtain ⟨X, hX⟩ := choose_lt (α := α) (n := l0) (p := fun i x => Q x ∧ ∀ j u, (E x)[j]? = some u → w.cell? (a.add (i * P.cellsOf e + j)) = some u) (fun i hil => by
      obtain ⟨cs', h1, h2⟩ := hi i (by omega)
      obtain ⟨y, hy, hq⟩ := hE _ _ _ h2
      obtain ⟨_, hlen, hat⟩ := World.cells?_some h1
      refine ⟨y, hq, fun j u hu => ?_⟩
      have hj : j < (E y).length := (List.getElem?_eq_some_iff.1 hu).1
      have h3 := hat j (by rw [hl] at hj; exact hj)
      rw [hy, hu, add_add] at h3
      exact h3)
    refine ⟨some a, l0, c0, X, rfl, hl0, hm, fun i hi' => (hX i hi').1, fun h0' => ?_⟩
    have he0 : 0 < (E (X 0)).length := by rw [hl]; exact hp0
    have hc0 := (hX 0 h0').2 0 _ (List.getElem?_eq_getElem he0)
    have hp : a = ⟨a.block, a.off, none⟩ := by
      have := addr_plain (a := a) (w := w) (by simpa [Addr.add] using hc0)
      exact this
    have hlt : a.block < w.heap.size := by
      have := cell_lt (a := a) (w := w) (by simpa [Addr.add] using hc0)
      exact this
    refine ⟨a.block, a.off, by rw [← hp], hlt, fun i hi' j u hu => ?_⟩
    have h4 := (hX i hi').2 j u hu
    rw [hp] at h4
    have e : (⟨a.block, a.off, none⟩ : Addr).add (i * P.cellsOf e + j) = ⟨a.block, a.off + i * P.cellsOf e + j, none⟩ := by
      unfold Addr.add
      split
      · rename_i h5; simp only [Addr.mk.injEq, and_true, true_and]; omega
      · simp only [Addr.mk.injEq, and_true, true_and]; omega
    rwa [e] at h4
end

theorem wf_i64 {n : Int} (h : (Lit.int .i64 n).wf = true) : -9223372036854775808 ≤ n ∧ n ≤ 9223372036854775807 := by
  unfold Lit.wf at h
  rw [Bool.and_eq_true, decide_eq_true_eq, decide_eq_true_eq] at h
  rw [show IntKind.i64.min = -9223372036854775808 by rfl, show IntKind.i64.max = 9223372036854775807 by rfl] at h
  exact h
theorem wf_i8 {n : Int} (h : (Lit.int .i8 n).wf = true) : -128 ≤ n ∧ n ≤ 127 := by
  unfold Lit.wf at h
  rw [Bool.and_eq_true, decide_eq_true_eq, decide_eq_true_eq] at h
  rw [show IntKind.i8.min = -128 by rfl, show IntKind.i8.max = 127 by rfl] at h
  exact h

set_option maxRecDepth 100000 in
theorem open_size {H : Type} {enc : TypeId × Value → H} {W : World} {r : Reach} {b0 : Nat} {v : Value} {d : DataW H} {ps : List MemPlace} (hval : Value.okWide Try.prog W r b0 23 v)
    (h : DataW.Trod enc Try.prog W 0 (fun _ => true) true 23 v d ps) : ∃ f r : Int, v = .agg #[.int .i64 f, .int .i64 r] := by
  obtain ⟨cs, rfl, hsz⟩ := okWide_struct Try.underlying23 hval
  obtain ⟨fuel, h⟩ := h
  obtain ⟨X, hX⟩ := struct_ints (ks := fun _ => .i64) Try.underlying23 (by kernel_rfl) (fun j f hj => by
    match j, hj with
    | 0, hj => obtain rfl := Option.some.inj hj; exact Try.underlying3
    | 1, hj => obtain rfl := Option.some.inj hj; exact Try.underlying3) h
  have hs2 : cs.size = 2 := hsz.trans (by kernel_rfl)
  have h0 := (hX 0 (by decide)).1
  have h1 := (hX 1 (by decide)).1
  refine ⟨X 0, X 1, ?_⟩
  obtain ⟨l⟩ := cs
  match l, hs2, h0, h1 with
  | [a, b], _, h0, h1 =>
    simp [Value.cells] at h0 h1
    rw [h0, h1]

set_option maxRecDepth 100000 in
theorem read_node {H : Type} {enc : TypeId × Value → H} {W : World} {base : Nat} {spare : Nat → Bool} {held : Bool} (m : Nat) (cs : List Value) (x : DataW H × List MemPlace)
    (h : DataW.trod enc Try.prog W base spare held m 59 cs = some x) : ∃ y : Nd, cs = nEnc y ∧ True := by
  obtain ⟨y0, y1, n, _, hlen, h0, h1⟩ := trod_struct2 Try.underlying59 h
  obtain ⟨q, hq, _, _⟩ := DataW.trod_int Try.underlying3 h0
  obtain ⟨X, hX⟩ := struct_ints (ks := fun j => if j = 2 then .i8 else .i64) Try.underlying57 (by kernel_rfl) (fun j f hj => by
    match j, hj with
    | 0, hj => obtain rfl := Option.some.inj hj; exact Try.underlying3
    | 1, hj => obtain rfl := Option.some.inj hj; exact Try.underlying3
    | 2, hj => obtain rfl := Option.some.inj hj; exact Try.underlying55) h1
  have hs4 : cs.length = 4 := hlen.trans (by kernel_rfl)
  rw [show Try.prog.cellsOf 3 = 1 by kernel_rfl] at hq
  have e0 := (hX 0 (by decide)).1
  have e1 := (hX 1 (by decide)).1
  have e2 := (hX 2 (by decide)).1
  rw [show Try.prog.cellsOf 57 = 3 by kernel_rfl] at e0 e1 e2
  refine ⟨(q, X 0, X 1, X 2), ?_, trivial⟩
  match cs, hs4, hq, e0, e1, e2 with
  | [a, b, c, d], _, hq, e0, e1, e2 =>
    simp at hq e0 e1 e2
    rw [hq, e0, e1, e2]
    rfl

set_option maxRecDepth 100000 in
theorem open_tree {H : Type} {enc : TypeId × Value → H} {W : World} {r : Reach} {b0 : Nat} {v : Value} {d : DataW H} {ps : List MemPlace} (hval : Value.okWide Try.prog W r b0 25 v)
    (h : DataW.Trod enc Try.prog W 0 (fun _ => true) true 25 v d ps) : ∃ (A : Option Addr) (l : List Nd) (c : Nat), v = .slice A (List.length l) c ∧ RecAt nEnc 4 W W.heap.size A l ∧ l.length ≤ c ∧ c ≤ maxLen := by
  obtain ⟨A, n, c, X, rfl, hn, hc, _, hX⟩ := slice_recs (E := nEnc) (Q := fun _ => True) Try.underlying25 (fun _ => by rw [nEnc_len]; exact (by kernel_rfl : 4 = Try.prog.cellsOf 59)) read_node
    (by rw [← (by kernel_rfl : 4 = Try.prog.cellsOf 59)]; decide) hval h
  have hl : ((List.range n).map fun i => X i).length = n := by simp
  refine ⟨A, (List.range n).map fun i => X i, c, by rw [hl], fun hp => ?_, by rw [hl]; omega, hc⟩
  obtain ⟨b, off, e, hb, hk⟩ := hX (by omega)
  rw [← (by kernel_rfl : 4 = Try.prog.cellsOf 59)] at hk
  refine ⟨b, off, e, hb, fun k x hx j u hu => ?_⟩
  have hkm : k < n := by
    have := (List.getElem?_eq_some_iff.1 hx).1
    omega
  obtain rfl : x = X k := by
    rw [List.getElem?_map, List.getElem?_range hkm] at hx
    exact (Option.some.inj hx).symm
  exact hk k hkm j u hu
end Go.Proofs.Yteaclphankckiaa
