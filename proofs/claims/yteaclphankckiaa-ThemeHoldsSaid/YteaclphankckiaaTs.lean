/- Layer 35: sets of moves in maps of the call's own. -/
import Derived.Test.YteaclphankckiaaTa
import Derived.Maps.OwnSet
import Derived.Maps.OwnOps
import Derived.DeepKeys4
namespace Go.Proofs.Yteaclphankckiaa
open Go Go.RowKit Go.Maps
set_option linter.unusedSimpArgs false
set_option linter.unusedVariables false

theorem laidOut : laidOutB Try.prog = true := by kernel_rfl
def mvV (m : Mv) : Value := .agg #[.int .i64 m.1, .int .i64 m.2.1, .int .i8 m.2.2]
theorem mvLaw : Keyed Try.prog 57 := Keyed.of_law (deep_law_laid laidOut (m := 10) (by decide) (by decide +kernel) (by kernel_rfl) (by kernel_rfl))
/-- the move's numbers lie in their kinds -/
def wfM (m : Mv) : Prop := (Lit.int .i64 m.1).wf = true ∧ (Lit.int .i64 m.2.1).wf = true ∧ (Lit.int .i8 m.2.2).wf = true
theorem mvKey {m : Mv} (h : wfM m) : ∃ kl, keyOf Try.prog 57 (mvV m) = some kl := by
  obtain ⟨h1, h2, h3⟩ := h
  have h3s : 3 ≤ Try.prog.types.size := by decide +kernel
  obtain ⟨n, hs⟩ : ∃ n, Try.prog.types.size = n + 3 := ⟨Try.prog.types.size - 3, by omega⟩
  have hk : Try.prog.keyType 57 = true := by kernel_rfl
  have hc : Try.prog.cellsOf 57 = 3 := by kernel_rfl
  have hc1 : Try.prog.cellsOf 3 = 1 := by kernel_rfl
  have hc2 : Try.prog.cellsOf 55 = 1 := by kernel_rfl
  have hfm : Value.formed Try.prog 57 (mvV m) = true := by
    unfold Value.formed mvV
    simp only [Try.underlying57, hc]
    rfl
  unfold keyOf
  rw [Try.underlying57]
  simp only [hk, hfm, Bool.true_and, if_true, hs]
  simp [Program.keyLits, Try.underlying57, Try.underlying3, Try.underlying55, hc, hc1, hc2, mvV, Value.cells, h1, h2, h3]
theorem mvV_inj {m m' : Mv} (h : mvV m = mvV m') : m = m' := by
  obtain ⟨a, b, p⟩ := m
  obtain ⟨a', b', p'⟩ := m'
  simp [mvV] at h
  obtain ⟨h1, h2, h3⟩ := h
  rw [h1, h2, h3]
theorem zeroB (w : World) : (zeroValue 4).run Try.prog w = .ok (.bool false) w := by kernel_rfl
theorem plainBool (x : Bool) : plainElem (H := Unit) Try.prog 4 (.bool x) = some (.lit (.bool x), []) := plainElem_bool Try.underlying4 x
theorem plain_bool_inv {P : Program} {e : TypeId} (he : P.underlying e = some .bool) {v : Value} {z : DataW Unit × List MemPlace} (h : plainElem P e v = some z) : ∃ x, v = .bool x ∧ z = (.lit (.bool x), []) := by
  unfold plainElem at h
  rw [he] at h
  cases v <;> simp at h
  exact ⟨_, rfl, h.symm⟩
/-- block b is a map that holds 'true' at some moves and nothing else -/
def MSet (w : World) (b n : Nat) (ms : List Mv) : Prop :=
  ∃ D : DataW Unit, w.ownsMap Try.prog 57 (plainElem Try.prog 4) b n D ∧ Maps.IsMap D ∧ ∀ m kl, keyOf Try.prog 57 (mvV m) = some kl → D.atKey kl (.lit (.bool false)) = .lit (.bool (decide (m ∈ ms)))
section
variable {w w' : World} {b n : Nat} {ms : List Mv}
theorem MSet.made (w : World) : MSet (w.alloc (.map #[] 0)) w.heap.size 0 [] :=
  ⟨.map [], World.ownsMap_made _ _ _ _, Maps.isMap_empty, fun m kl _ => by simp; rfl⟩
theorem MSet.mono (h : MSet w b n ms) {n' : Nat} (hn : n ≤ n') : MSet w b n' ms := by
  obtain ⟨D, h1, h2⟩ := h
  exact ⟨D, h1.mono hn, h2⟩
theorem MSet.lt (h : MSet w b n ms) : b < w.heap.size := by
  obtain ⟨D, h1, _⟩ := h
  exact h1.lt
/-- the map's block is as it was -/
theorem MSet.of_block (h : MSet w b n ms) (hb : w'.heap[b]? = w.heap[b]?) : MSet w' b n ms := by
  obtain ⟨D, ⟨es, clock, h1, h2⟩, h3⟩ := h
  exact ⟨D, ⟨es, clock, hb.trans h1, h2⟩, h3⟩
theorem MSet.lookup (h : MSet w b n ms) {m : Mv} (hw : wfM m) : (Instr.lookup 94 (.map (some b)) (mvV m) false).run Try.prog w = .ok (.bool (decide (m ∈ ms))) w := by
  obtain ⟨D, h1, _, h2⟩ := h
  obtain ⟨kl, hk⟩ := mvKey hw
  obtain ⟨v, ps, hr, hv⟩ := h1.lookup mvLaw Try.underlying94 (zeroB w) (plainBool false) hk
  rw [h2 m kl hk] at hv
  obtain ⟨x, rfl, hx⟩ := plain_bool_inv Try.underlying4 hv
  simp at hx
  rw [hr, hx.1]
theorem MSet.update (h : MSet w b n ms) {m : Mv} (hw : wfM m) (hn : n < maxLen) : ∃ w', (Instr.mapUpdate 94 (.map (some b)) (mvV m) (.bool true)).run Try.prog w = .ok () w' ∧ MSet w' b (n + 1) (m :: ms) ∧ w.grownBy w' (some b) := by
  obtain ⟨D, h1, him, h2⟩ := h
  obtain ⟨kl, hk⟩ := mvKey hw
  obtain ⟨w', hr, h3, h4⟩ := h1.update mvLaw Try.underlying94 hn hk (plainBool true)
  refine ⟨w', hr, ⟨_, h3, him.put _ _, fun m' kl' hk' => ?_⟩, h4⟩
  by_cases e : m' = m
  · subst e
    obtain rfl : kl' = kl := Option.some.inj (hk'.symm.trans hk)
    rw [Maps.atKey_put_same him (mvLaw.key hk)]
    simp
  · have hne : kl' ≠ kl := fun e2 => e (mvV_inj (mvLaw.inj hk' (e2 ▸ hk)))
    rw [Maps.atKey_put_other hne, h2 m' kl' hk']
    simp [e]
end
theorem wfM_of {f q : Int} {m : Mv} (h : mvB f q m.1 m.2.1 m.2.2 = true) : wfM m := by
  obtain ⟨h1, h2, _, h3⟩ := mvB_out h
  obtain ⟨z1, a0, a1⟩ := sqB_out h1
  obtain ⟨_, b0, b1⟩ := sqB_out h2
  obtain ⟨f0, f1, r0, r1⟩ := szB_out z1
  have := mul_bd f0 f1 r0 r1
  refine ⟨WalkArith.wf_i64 (by omega), WalkArith.wf_i64 (by omega), ?_⟩
  rcases h3 with h3 | ⟨h3, h4⟩
  · rw [h3]; rfl
  · have : m.2.2 = 2 ∨ m.2.2 = 3 ∨ m.2.2 = 4 ∨ m.2.2 = 5 := by omega
    rcases this with h | h | h | h <;> (rw [h]; rfl)
end Go.Proofs.Yteaclphankckiaa
