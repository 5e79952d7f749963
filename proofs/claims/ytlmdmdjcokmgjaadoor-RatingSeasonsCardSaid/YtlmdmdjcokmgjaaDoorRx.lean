/- Layer 45: the encounters of the law RatingSeasons. Printed by gen_seas.py. -/
import Derived.Test.YtlmdmdjcokmgjaaDoorRw
namespace Go.Proofs.YtlmdmdjcokmgjaaDoor
open Go.RowKit
set_option linter.unusedSimpArgs false
set_option linter.unusedVariables false

def extE (E : List En) (n : Nat) : List En := E ++ List.replicate n (E.getD 0 (0, 0, 0))
theorem extE_zero (E : List En) : extE E 0 = E := by simp [extE]
theorem extE_length (E : List En) (n : Nat) : (extE E n).length = E.length + n := by simp [extE]
theorem extE_succ (E : List En) (n : Nat) {g : En} (h : E[0]? = some g) : extE E n ++ [g] = extE E (n + 1) := by
  unfold extE
  rw [List.getD_eq_getElem?_getD, h, Option.getD_some, List.replicate_succ', List.append_assoc]
/-- the encounters that the law hands on -/
def ownE (E : List En) (many : Int) : List En := if 195 ≤ many ∧ many ≤ 205 ∧ 0 < E.length then extE E many.toNat else E
theorem ownE_len (E : List En) (many : Int) (h : E.length ≤ 30) : (ownE E many).length ≤ 300 := by
  unfold ownE
  split
  · rw [extE_length]; omega
  · omega
theorem s_three {B1 B2 o1 o2 o3 : Nat} {w W : World} {x y z : Value} (h : Keep3 B1 B2 B2 w W) (a0 : w.cell? ⟨B1, o1, none⟩ = some x) (a1 : w.cell? ⟨B1, o2, none⟩ = some y) (a2 : w.cell? ⟨B2, o3, none⟩ = some z) :
    W.cell? ⟨B1, o1, none⟩ = some x ∧ W.cell? ⟨B1, o2, none⟩ = some y ∧ W.cell? ⟨B2, o3, none⟩ = some z :=
  ⟨(World.cell?_of_block (h B1 (.inl rfl))).trans a0, (World.cell?_of_block (h B1 (.inl rfl))).trans a1, (World.cell?_of_block (h B2 (.inr (.inl rfl)))).trans a2⟩
def noV (b : Bool) : Int := if b then 0 else 2
theorem noV_and (a b : Bool) : noV (a && b) = if b = true then noV a else 2 := by cases a <;> cases b <;> rfl
theorem recs_e (w : World) (x y z : Int) (t : TypeId) : RecAt eEnc 3 (w.alloc (.cells #[.int .i64 x, .int .i64 y, .int .i64 z] t)) (w.alloc (.cells #[.int .i64 x, .int .i64 y, .int .i64 z] t)).heap.size (some ⟨w.heap.size, 0, none⟩) [(x, y, z)] := by
  intro _
  refine ⟨w.heap.size, 0, rfl, by simp, fun k v hk j u hu => ?_⟩
  have hk0 : k = 0 := by have := (List.getElem?_eq_some_iff.1 hk).1; simp at this; omega
  subst hk0
  obtain rfl : (x, y, z) = v := by simpa using hk
  match j, hu with
  | 0, hu => rw [show u = .int .i64 x from (Option.some.inj hu).symm]; simp
  | 1, hu => rw [show u = .int .i64 y from (Option.some.inj hu).symm]; simp
  | 2, hu => rw [show u = .int .i64 z from (Option.some.inj hu).symm]; simp
  | (j + 3), hu => simp [eEnc] at hu
theorem allB_parts {R F : List Int} {E : List En} : allB R F E = (decide (R.length = F.length) && rfB R F R.length && E.all (okX R.length)) := by unfold allB; rw [Bool.and_assoc]
end Go.Proofs.YtlmdmdjcokmgjaaDoor
