/- Rows of numbers. -/
import Derived.Test.YteaclphankckiaaTsq
import Derived.Test.YteaclphankckiaaO1
namespace Go.Proofs.Yteaclphankckiaa
open Go.RowKit
set_option linter.unusedSimpArgs false
set_option linter.unusedVariables false

def iEnc (x : Int) : List Value := [.int .i64 x]
theorem iEnc_len (x : Int) : (iEnc x).length = 1 := rfl
theorem iEnc_one (x : Int) : ∀ u ∈ iEnc x, u.oneCell' = true := by
  intro u hu
  simp only [iEnc, List.mem_cons, List.not_mem_nil, or_false] at hu
  subst hu; rfl
theorem intRow : RowOf Try.prog 27 3 1 8 :=
  RowOf.mk' (z := .int .i64 0) Try.underlying27 (by kernel_rfl) (by decide) (by decide) rfl
theorem recs_i (w : World) (x : Int) (t : TypeId) {b : Nat} (hb : b = w.heap.size) : RecAt iEnc 1 (w.alloc (.cells #[.int .i64 x] t)) (w.alloc (.cells #[.int .i64 x] t)).heap.size (some ⟨b, 0, none⟩) [x] := by subst hb; exact recs_one (g := fun x => .int .i64 x) (fun _ => rfl) w x t
theorem recs_gi {B : Nat} {w : World} {A : Option Addr} {l : List Int} (h : RecAt iEnc 1 w B A l) : RecAt iEnc 1 w.drew B A l := h
theorem rec1 {w : World} {B : Nat} {A : Option Addr} {l : List Int} (h : RecAt iEnc 1 w B A l) {k : Nat} {x : Int} (hx : l[k]? = some x) : ∃ b off, A = some ⟨b, off, none⟩ ∧ b < B ∧ w.cell? ⟨b, off + k, none⟩ = some (.int .i64 x) := by
  obtain ⟨b, off, e, hb, hc⟩ := h (by have := (List.getElem?_eq_some_iff.1 hx).1; omega)
  refine ⟨b, off, e, hb, ?_⟩
  have := hc k x hx 0 _ rfl
  simpa using this
end Go.Proofs.Yteaclphankckiaa
