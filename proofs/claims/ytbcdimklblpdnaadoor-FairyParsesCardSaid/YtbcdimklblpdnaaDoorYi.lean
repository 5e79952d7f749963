/- Layer 27: line of the reference. -/
import Derived.Test.YtbcdimklblpdnaaDoorYh
namespace Go.Proofs.YtbcdimklblpdnaaDoor
open Go Go.RowKit
set_option linter.unusedSimpArgs false
set_option linter.unusedVariables false
def iEnc (x : Int) : List Value := [.int .i64 x]
theorem iEnc_len (x : Int) : (iEnc x).length = 1 := rfl
theorem iEnc_one (x : Int) : ∀ u ∈ iEnc x, u.oneCell' = true := by
  intro u hu
  simp only [iEnc, List.mem_cons, List.not_mem_nil, or_false] at hu
  subst hu; rfl
theorem intRow : RowOf Tryd.prog 73 3 1 8 :=
  RowOf.mk' (z := .int .i64 0) Tryd.underlying73 (by kernel_rfl) (by decide) (by decide) rfl
/-- the squares from some steps on, up to the first occupied one, at most some of them -/
def linF (f r a : Nat) (sf sr : Int) (ps : List Int) : Nat → Nat → Nat → List Int
  | 0, _, _ => []
  | n + 1, left, k => if left = 0 then [] else if 0 ≤ sqK f r a sf sr k then sqK f r a sf sr k :: (if ps.getD (sqK f r a sf sr k).toNat 0 = 0 then linF f r a sf sr ps n (left - 1) (k + 1) else []) else []
def linV (f r a : Nat) (sf sr : Int) (ps : List Int) (first most : Nat) : List Int := linF f r a sf sr ps 9 most first
theorem linF_zero (f r a : Nat) (sf sr : Int) (ps : List Int) (n k : Nat) : linF f r a sf sr ps n 0 k = [] := by
  cases n with
  | zero => rfl
  | succ n => exact if_pos rfl
/-- what comes back -/
structure LnR (L : List Int) (e : Ending) (w w' : World) : Prop where
  out : ∃ (A : Option Addr) (c : Nat), e = .returned (.slice A L.length c) ∧ RecAt iEnc 1 w' w'.heap.size A L
  below : Below w.heap.size w w'
end Go.Proofs.YtbcdimklblpdnaaDoor
