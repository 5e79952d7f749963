/- What a read datum of plain parts says of the cells that it was read from: no program in sight. -/
import Derived.ProofKit
import Derived.OpenShut
namespace Go.Proofs.YtjjjdoealagpcaaDoor
open Go.RowKit
set_option linter.unusedSimpArgs false
set_option linter.unusedVariables false

/-- the value of cell i of a datum of plain parts -/
def cellAt {H : Type} (P : Program) : Nat → TypeId → DataW H → Nat → Option Value
  | 0, _, _, _ => none
  | n + 1, t, d, i =>
    match P.underlying t, d with
    | some (.int _), .lit (.int k m) => if i = 0 then some (.int k m) else none
    | some .bool, .lit (.bool b) => if i = 0 then some (.bool b) else none
    | some .string, .lit (.string bs) => if i = 0 then some (.string ⟨bs.toArray⟩) else none
    | some (.struct fs), .agg ds => (fs.toList.zip ds).findSome? fun x => if x.1.offset ≤ i ∧ i < x.1.offset + P.cellsOf x.1.type then cellAt P n x.1.type x.2 (i - x.1.offset) else none
    | some (.array c e), .agg ds => if i / P.cellsOf e < c ∧ 0 < P.cellsOf e then (ds[i / P.cellsOf e]?).bind fun d => cellAt P n e d (i % P.cellsOf e) else none
    | _, _ => none

theorem get_take_drop {α : Type} {l : List α} {a b i : Nat} {v : α} (h : ((l.drop a).take b)[i]? = some v) : l[a + i]? = some v := by
  rw [List.getElem?_take] at h
  split at h
  · rwa [List.getElem?_drop] at h
  · cases h

theorem cellAt_of {H : Type} {enc : TypeId × Value → H} {P : Program} {w : World} {base : Nat} {spare : Nat → Bool} {held : Bool} : ∀ (n : Nat) (fuel : Nat) (t : TypeId) (cs : List Value) (d : DataW H) (ps : List MemPlace) (i : Nat) (v : Value),
    DataW.trod enc P w base spare held fuel t cs = some (d, ps) → cellAt P n t d i = some v → cs[i]? = some v := by
  intro n
  induction n with
  | zero => intro fuel t cs d ps i v _ h; simp [cellAt] at h
  | succ n ih =>
    intro fuel t cs d ps i v h hc
    unfold cellAt at hc
    split at hc
    · rename_i k' k m hu
      split at hc
      · obtain ⟨r, rfl, e, _⟩ := DataW.trod_int hu h
        simp only [Prod.mk.injEq, DataW.lit.injEq, Lit.int.injEq] at e
        obtain ⟨⟨rfl, rfl⟩, _⟩ := e
        subst_vars; simpa using hc
      · cases hc
    · rename_i b hu
      split at hc
      · obtain ⟨r, rfl, e⟩ := DataW.trod_bool hu h
        simp only [Prod.mk.injEq, DataW.lit.injEq, Lit.bool.injEq] at e
        obtain ⟨rfl, _⟩ := e
        subst_vars; simpa using hc
      · cases hc
    · rename_i bs hu
      split at hc
      · obtain ⟨r, rfl, e, _⟩ := DataW.trod_string hu h
        simp only [Prod.mk.injEq, DataW.lit.injEq, Lit.string.injEq] at e
        obtain ⟨rfl, _⟩ := e
        subst_vars; simpa using hc
      · cases hc
    · rename_i fs ds hu
      obtain ⟨xs, m, rfl, e, hl, hx, hf⟩ := DataW.trod_struct hu h
      simp only [Prod.mk.injEq, DataW.agg.injEq] at e
      obtain ⟨rfl, _⟩ := e
      obtain ⟨x, hm, hs⟩ := List.exists_of_findSome?_eq_some hc
      split at hs
      · rename_i hr
        obtain ⟨j, hj⟩ := List.mem_iff_getElem?.1 hm
        rw [List.getElem?_zip_eq_some] at hj
        obtain ⟨h1, h2⟩ := hj
        rw [List.getElem?_map, Option.map_eq_some_iff] at h2
        obtain ⟨y, hy, hy2⟩ := h2
        have := hf j x.1 (by simpa using h1)
        rw [hy] at this
        have h3 := ih m x.1.type _ y.1 y.2 (i - x.1.offset) v this (by rw [hy2]; exact hs)
        have h4 := get_take_drop h3
        rwa [show x.1.offset + (i - x.1.offset) = i by omega] at h4
      · cases hs
    · rename_i c e ds hu
      obtain ⟨xs, m, rfl, ee, hl, hx, hf⟩ := DataW.trod_array hu h
      simp only [Prod.mk.injEq, DataW.agg.injEq] at ee
      obtain ⟨rfl, _⟩ := ee
      split at hc
      · rename_i hr
        rw [Option.bind_eq_some_iff] at hc
        obtain ⟨d', hd', hc⟩ := hc
        rw [List.getElem?_map, Option.map_eq_some_iff] at hd'
        obtain ⟨y, hy, rfl⟩ := hd'
        have := hf (i / P.cellsOf e) hr.1
        rw [hy] at this
        have h3 := ih m e _ y.1 y.2 (i % P.cellsOf e) v this hc
        have h4 := get_take_drop h3
        rwa [show i / P.cellsOf e * P.cellsOf e + i % P.cellsOf e = i by rw [Nat.mul_comm]; exact Nat.div_add_mod i _] at h4
      · cases hc
    · cases hc
end Go.Proofs.YtjjjdoealagpcaaDoor
