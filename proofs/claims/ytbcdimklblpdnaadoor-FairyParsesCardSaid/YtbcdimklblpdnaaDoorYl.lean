/- Layer 27: valid boards (reference), Fine, StepsOf. -/
import Derived.Test.YtbcdimklblpdnaaDoorYk
namespace Go.Proofs.YtbcdimklblpdnaaDoor
open Go Go.RowKit
set_option linter.unusedSimpArgs false
set_option linter.unusedVariables false
/-- a valid board -/
def okBd (f r : Int) (ps : List Int) : Prop := (3 ≤ f ∧ f ≤ 8) ∧ (3 ≤ r ∧ r ≤ 8) ∧ (ps.length : Int) = f * r ∧ ∀ p ∈ ps, -15 ≤ p ∧ p ≤ 15
instance (f r : Int) (ps : List Int) : Decidable (okBd f r ps) := by unfold okBd; infer_instance
def bdB (f r : Int) (ps : List Int) : Bool := decide (okBd f r ps)
theorem bdB_yes {f r : Int} {ps : List Int} (h : okBd f r ps) : bdB f r ps = true := decide_eq_true h
theorem bdB_no {f r : Int} {ps : List Int} (h : ¬ okBd f r ps) : bdB f r ps = false := decide_eq_false h
theorem prodB {f r : Int} (h1 : 3 ≤ f ∧ f ≤ 8) (h2 : 3 ≤ r ∧ r ≤ 8) : 9 ≤ f * r ∧ f * r ≤ 64 := by
  have a1 : 3 * 3 ≤ f * r := Int.mul_le_mul h1.1 h2.1 (by omega) (by omega)
  have a2 : f * r ≤ 8 * 8 := Int.mul_le_mul h1.2 h2.2 (by omega) (by omega)
  omega
/-- board, piece and square are valid -/
def okAll (f r : Int) (ps : List Int) (s : ByteArray) (l : List At) (a : Int) : Prop := okBd f r ps ∧ okFy s l ∧ 0 ≤ a ∧ a < (ps.length : Int)
open Classical in
noncomputable def alB (f r : Int) (ps : List Int) (s : ByteArray) (l : List At) (a : Int) : Bool := decide (okAll f r ps s l a)
open Classical in
theorem alB_yes {f r : Int} {ps : List Int} {s : ByteArray} {l : List At} {a : Int} (h : okAll f r ps s l a) : alB f r ps s l a = true := by unfold alB; exact decide_eq_true h
open Classical in
theorem alB_no {f r : Int} {ps : List Int} {s : ByteArray} {l : List At} {a : Int} (h : ¬ okAll f r ps s l a) : alB f r ps s l a = false := by unfold alB; exact decide_eq_false h
/-- the steps with an error number -/
structure StE (L : List St) (k : Int) (e : Ending) (w w' : World) : Prop where
  out : ∃ (A : Option Addr) (c : Nat), e = .returned (.tuple #[.slice A L.length c, .int .i64 k]) ∧ RecAt sEnc 2 w' w'.heap.size A L
  below : Below w.heap.size w w'
def stepsE (x : At) (b : Bool) : List St := if aB x then stepsL x b else []
def errE (x : At) : Int := if aB x then 0 else 2
theorem recs_nil {α : Type} (f : α → List Value) (size : Nat) (w : World) (B : Nat) (A : Option Addr) : RecAt f size w B A [] := fun h => absurd h (by simp)
end Go.Proofs.YtbcdimklblpdnaaDoor
