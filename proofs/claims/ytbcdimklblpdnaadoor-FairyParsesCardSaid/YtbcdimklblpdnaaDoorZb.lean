/- Layer 27: the text of a fairy piece, plain; Text of the reference. -/
import Derived.Test.YtbcdimklblpdnaaDoorZa
namespace Go.Proofs.YtbcdimklblpdnaaDoor
open Go Go.RowKit
set_option linter.unusedSimpArgs false
set_option linter.unusedVariables false
theorem bs_of (s : ByteArray) : bsB s.data.toList = s := by
  unfold bsB
  rfl
theorem bs_ex (s : ByteArray) : ∃ l, s = bsB l := ⟨_, (bs_of s).symm⟩
instance : Inhabited At := ⟨⟨0, 0, 0, 0, 0, 0⟩⟩
/-- the texts of the first atoms with what is between them -/
def plusK (l : List At) : Nat → List UInt8
  | 0 => []
  | k + 1 => plusK l k ++ (if 0 < k then [43] else []) ++ atB (l.getD k default)
/-- the text of a fairy piece -/
def txL (nm : List UInt8) (l : List At) : List UInt8 := nm ++ [32] ++ plusK l l.length
theorem atB_len (x : At) : (atB x).length ≤ 7 := by
  unfold atB
  have h1 := modB_len x.mode
  have h2 := wayB_len x.way
  simp only [List.length_append, List.length_cons, List.length_nil]
  split <;> simp <;> omega
theorem plusK_len (l : List At) : ∀ k, (plusK l k).length ≤ 8 * k
  | 0 => Nat.le_refl _
  | k + 1 => by
    have ih := plusK_len l k
    have h1 := atB_len (l.getD k default)
    unfold plusK
    generalize atB (l.getD k default) = z at *
    simp only [List.length_append]
    split <;> simp <;> omega
theorem givV_len {nm : List UInt8} (h : PC.givV (bsB nm) = true) : 1 ≤ nm.length ∧ nm.length ≤ 32 := by
  unfold PC.givV at h
  obtain ⟨_, h2⟩ := Bool.and_eq_true_iff.1 h
  have h3 := of_decide_eq_true h2
  rw [bs_size] at h3
  exact h3
theorem fy_at {s : ByteArray} {l : List At} (h : okFy s l) {k : Nat} {x : At} (hx : l[k]? = some x) : okA x := (h.1.1 k x (List.getElem?_eq_some_iff.1 hx).1 hx).1
end Go.Proofs.YtbcdimklblpdnaaDoor
