/- Layer 27: steps, plain; Steps and StepsOf of the reference. -/
import Derived.Test.YtbcdimklblpdnaaDoorYb
import Derived.Lib.MinMax
namespace Go.Proofs.YtbcdimklblpdnaaDoor
open Go Go.RowKit
set_option linter.unusedSimpArgs false
set_option linter.unusedVariables false
def upS (b : Bool) (r : Int) : Int := if b then -r else r
def absI (n : Int) : Int := max n (-n)
/-- is it a step of the atom? -/
def keepS (x : At) (b : Bool) (f r : Int) : Bool := decide (min (absI f) (absI r) = x.short) && decide (max (absI f) (absI r) = x.long) && !(decide (x.way = 1 ∧ upS b r ≤ 0) || decide (x.way = 2 ∧ 0 ≤ upS b r))
def refRow (x : At) (b : Bool) (r : Int) : Nat → List St
  | 0 => []
  | m + 1 => refRow x b r m ++ if keepS x b ((m : Int) - 7) r = true then [⟨(m : Int) - 7, r⟩] else []
def refUp (x : At) (b : Bool) : Nat → List St
  | 0 => []
  | n + 1 => refUp x b n ++ refRow x b ((n : Int) - 7) 15
/-- all steps of an atom -/
def stepsL (x : At) (b : Bool) : List St := refUp x b 15
theorem refRow_le (x : At) (b : Bool) (r : Int) : ∀ m, (refRow x b r m).length ≤ m
  | 0 => Nat.le_refl _
  | m + 1 => by
    have := refRow_le x b r m
    show (refRow x b r m ++ _).length ≤ _
    rw [List.length_append]
    split <;> simp <;> omega
theorem refUp_le (x : At) (b : Bool) : ∀ n, (refUp x b n).length ≤ n * 15
  | 0 => Nat.le_refl _
  | n + 1 => by
    have := refUp_le x b n
    have h2 := refRow_le x b ((n : Int) - 7) 15
    show (refUp x b n ++ _).length ≤ _
    rw [List.length_append]
    omega
/-- the rows so far -/
def midS (x : At) (b : Bool) (n : Nat) (r : Int) (m : Nat) : List St := refUp x b n ++ refRow x b r m
theorem midS_zero (x : At) (b : Bool) (n : Nat) (r : Int) : midS x b n r 0 = refUp x b n := List.append_nil _
theorem midS_end {x : At} {b : Bool} {n : Nat} {r : Int} (h : (n : Int) - 7 = r) : midS x b n r 15 = refUp x b (n + 1) := by subst h; rfl
theorem midS_le (x : At) (b : Bool) (n : Nat) (r : Int) (m : Nat) (h1 : (refUp x b n).length ≤ 300) (h2 : (refRow x b r m).length ≤ 300) : (midS x b n r m).length ≤ 1000 := by
  unfold midS
  rw [List.length_append]
  omega
theorem refRow_no {x : At} {b : Bool} {r : Int} {m : Nat} (h : keepS x b ((m : Int) - 7) r = false) : refRow x b r m = refRow x b r (m + 1) := by
  show _ = _ ++ _
  rw [if_neg (by rw [h]; decide), List.append_nil]
theorem refRow_yes {x : At} {b : Bool} {r : Int} {m : Nat} (h : keepS x b ((m : Int) - 7) r = true) : refRow x b r m ++ [⟨(m : Int) - 7, r⟩] = refRow x b r (m + 1) := by
  show _ = _ ++ _
  rw [if_pos h]
theorem len_app1 {α : Type} {X Y : List α} {z : α} (h : X ++ [z] = Y) : X.length + 1 = Y.length := by rw [← h, List.length_append]; rfl
/-- what comes back -/
structure StR (L : List St) (e : Ending) (w w' : World) : Prop where
  out : ∃ (A : Option Addr) (c : Nat), e = .returned (.slice A L.length c) ∧ RecAt sEnc 2 w' w'.heap.size A L
  below : Below w.heap.size w w'
theorem O1.drewN2 {α : Type} {f : α → List Value} {size base : Nat} {e : TypeId} {w0 w : World} {A : Option Addr} {c : Nat} {l : List α} (h : O1 f size base e w0 w A c l) (n : Nat) : O1 f size base e w0 (w.drewN n) A c l := ⟨h.own, below_drewN h.below n, h.size⟩
theorem recs_st (w : World) (x : St) (t : TypeId) : RecAt sEnc 2 (w.alloc (.cells #[.int .i64 x.files, .int .i64 x.ranks] t)) (w.alloc (.cells #[.int .i64 x.files, .int .i64 x.ranks] t)).heap.size (some ⟨w.heap.size, 0, none⟩) [x] := by
  intro _
  refine ⟨w.heap.size, 0, rfl, by simp, fun k y hk j u hu => ?_⟩
  have hk0 : k = 0 := by have := (List.getElem?_eq_some_iff.1 hk).1; simp at this; omega
  subst hk0
  obtain rfl : x = y := by simpa using hk
  rw [cell_of_row _ _ _ _ _ _ (heap_alloc_new w _)]
  match j, hu with
  | 0, hu => rw [show u = .int .i64 x.files from (Option.some.inj hu).symm]; rfl
  | 1, hu => rw [show u = .int .i64 x.ranks from (Option.some.inj hu).symm]; rfl
  | (j + 2), hu => simp [sEnc] at hu
end Go.Proofs.YtbcdimklblpdnaaDoor
