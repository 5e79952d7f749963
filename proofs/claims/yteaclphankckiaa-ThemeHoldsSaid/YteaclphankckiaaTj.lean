/- Layer 35: the kinds of pieces promoted to: a map of the call's own. -/
import Derived.Test.YteaclphankckiaaTs
import Derived.Maps.Views
namespace Go.Proofs.Yteaclphankckiaa
open Go Go.RowKit Go.Maps
set_option linter.unusedSimpArgs false
set_option linter.unusedVariables false

theorem pcLaw : Keyed Try.prog 55 := int_keyed Try.underlying55
theorem pcKey {p : Int} (h : (Lit.int .i8 p).wf = true) : keyOf Try.prog 55 (.int .i8 p) = some (.int .i8 p) := by
  rw [keyOf_int Try.underlying55]
  simp [mapKey, Try.underlying55, h]
/-- a piece of a list without repeats -/
def insP (p : Int) (ps : List Int) : List Int := if p ∈ ps then ps else p :: ps
theorem insP_mem {p x : Int} {ps : List Int} : x ∈ insP p ps ↔ x = p ∨ x ∈ ps := by
  unfold insP
  split
  · constructor
    · exact .inr
    · rintro (rfl | h)
      · assumption
      · exact h
  · exact List.mem_cons
theorem insP_len (p : Int) (ps : List Int) : (insP p ps).length = if p ∈ ps then ps.length else ps.length + 1 := by
  unfold insP
  split <;> rfl
/-- block b is a map that holds 'true' at the pieces ps and nothing else -/
def PSet (w : World) (b n : Nat) (ps : List Int) : Prop :=
  ∃ D : DataW Unit, w.ownsMap Try.prog 55 (plainElem Try.prog 4) b n D ∧ Maps.IsMap D ∧ (∀ p, (Lit.int .i8 p).wf = true → D.atKey (.int .i8 p) (.lit (.bool false)) = .lit (.bool (decide (p ∈ ps))) ∧ Maps.has D (.int .i8 p) = decide (p ∈ ps)) ∧ Maps.size D = ps.length
section
variable {w w' : World} {b n : Nat} {ps : List Int}
theorem PSet.made (w : World) : PSet (w.alloc (.map #[] 0)) w.heap.size 0 [] :=
  ⟨.map [], World.ownsMap_made _ _ _ _, Maps.isMap_empty, fun p _ => ⟨by simp; rfl, by simp [Maps.has_eq]⟩, rfl⟩
theorem PSet.mono (h : PSet w b n ps) {n' : Nat} (hn : n ≤ n') : PSet w b n' ps := by
  obtain ⟨D, h1, h2⟩ := h
  exact ⟨D, h1.mono hn, h2⟩
theorem PSet.lt (h : PSet w b n ps) : b < w.heap.size := by
  obtain ⟨D, h1, _⟩ := h
  exact h1.lt
theorem PSet.of_block (h : PSet w b n ps) (hb : w'.heap[b]? = w.heap[b]?) : PSet w' b n ps := by
  obtain ⟨D, ⟨es, clock, h1, h2⟩, h3⟩ := h
  exact ⟨D, ⟨es, clock, hb.trans h1, h2⟩, h3⟩
theorem PSet.lookup (h : PSet w b n ps) {p : Int} (hw : (Lit.int .i8 p).wf = true) : (Instr.lookup 70 (.map (some b)) (.int .i8 p) false).run Try.prog w = .ok (.bool (decide (p ∈ ps))) w := by
  obtain ⟨D, h1, _, h2, _⟩ := h
  obtain ⟨v, qs, hr, hv⟩ := h1.lookup pcLaw Try.underlying70 (zeroB w) (plainBool false) (pcKey hw)
  rw [(h2 p hw).1] at hv
  obtain ⟨x, rfl, hx⟩ := plain_bool_inv Try.underlying4 hv
  simp at hx
  rw [hr, hx.1]
theorem PSet.len (h : PSet w b n ps) (ty : TypeId) : (Builtin.len_ #[70] ty #[.map (some b)]).run Try.prog w = .ok (.int .i64 (ps.length : Int)) w := by
  obtain ⟨D, h1, _, _, h3⟩ := h
  rw [h1.len Try.underlying70 ty, h3]
theorem PSet.update (h : PSet w b n ps) {p : Int} (hw : (Lit.int .i8 p).wf = true) (hn : n < maxLen) : ∃ w', (Instr.mapUpdate 70 (.map (some b)) (.int .i8 p) (.bool true)).run Try.prog w = .ok () w' ∧ PSet w' b (n + 1) (insP p ps) ∧ w.grownBy w' (some b) := by
  obtain ⟨D, h1, him, h2, h3⟩ := h
  obtain ⟨w', hr, h4, h5⟩ := h1.update pcLaw Try.underlying70 hn (pcKey hw) (plainBool true)
  have hk := pcLaw.key (pcKey hw)
  refine ⟨w', hr, ⟨_, h4, him.put _ _, fun x hx => ?_, ?_⟩, h5⟩
  · by_cases e : x = p
    · subst e
      rw [Maps.atKey_put_same him hk, Maps.has_put_same him hk]
      have : x ∈ insP x ps := insP_mem.2 (.inl rfl)
      simp [this]
    · have hne : (Lit.int .i8 x) ≠ (Lit.int .i8 p) := fun e2 => e (by simpa using e2)
      rw [Maps.atKey_put_other hne, Maps.has_put_other hne, (h2 x hx).1, (h2 x hx).2]
      have : (x ∈ insP p ps) = (x ∈ ps) := by rw [insP_mem]; simp [e]
      simp [this]
  · rw [Maps.size_put (h1.tidy pcLaw), (h2 p hw).2, h3, insP_len]
    by_cases e : p ∈ ps <;> simp [e]
end
end Go.Proofs.Yteaclphankckiaa
