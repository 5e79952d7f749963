/- Layer 43: Pair at every field; the field of the chapter. -/
import Derived.Test.YtjjjdoealagpcaaDoorGs
import Derived.Test.YtjjjdoealagpcaaDoorGt
namespace Go.Proofs.YtjjjdoealagpcaaDoor
open Go Go.RowKit
set_option linter.unusedSimpArgs false
set_option linter.unusedVariables false
theorem FH.pPair {w : World} {A : Option Addr} {l : List Ent} {c : Nat} (hF : FH w A l c) (hv : okF l) (hl7 : l.length ≤ 7) (hT : TabOK w) :
    Calls Tryd.prog 13 #[.slice A l.length c] w fun e w' => PairP l e w w' := by
  by_cases h : l.length % 2 = 1
  · exact pPair_yes1 A l c w hF hv hl7 hT h
  · exact pPair_yes0 A l c w hF hv hl7 hT (by omega)
theorem FH.pPair_no {w : World} {A : Option Addr} {l : List Ent} {c : Nat} (hF : FH w A l c) (hv : ¬ okF l) :
    Calls Tryd.prog 13 #[.slice A l.length c] w fun e w' => e = .returned (.tuple #[.agg #[.slice none 0 0, .slice none 0 0], .int .i64 2]) ∧ Below w.heap.size w w' := pPair_bad A l c w hF hv
/-- the field of the chapter; B: where the lists of those met lie -/
def exE (B : Nat) : List Ent := [
  ⟨⟨#[97]⟩, 2000, 2, 1, 0, 1, false, [3], some ⟨B, 0, none⟩, 1⟩,
  ⟨⟨#[98]⟩, 1900, 2, 0, 1, 2, false, [2], some ⟨B + 1, 0, none⟩, 1⟩,
  ⟨⟨#[99]⟩, 1800, 0, 1, 0, 1, false, [1], some ⟨B + 2, 0, none⟩, 1⟩,
  ⟨⟨#[100]⟩, 1700, 0, 0, 1, 2, false, [0], some ⟨B + 3, 0, none⟩, 1⟩]
theorem ex_ok (B : Nat) : okF (exE B) := by
  refine ⟨by show 2 ≤ 4; omega, by show 4 ≤ 12; omega, fun i x hi hx => ?_⟩
  have hi4 : i < 4 := hi
  have key : ∀ (k : Nat) (n m : Int), ([m] : List Int)[k]? = some n → k = 0 ∧ n = m := by
    intro k n m h
    match k, h with
    | 0, h => exact ⟨rfl, (Option.some.inj h).symm⟩
    | (k + 1), h => simp at h
  have hg : ∀ c : Fin 4, PC.givV ⟨#[(97 + c.val).toUInt8]⟩ = true := by decide +kernel
  obtain rfl | rfl | rfl | rfl : i = 0 ∨ i = 1 ∨ i = 2 ∨ i = 3 := by omega
  · obtain rfl := (Option.some.inj hx)
    refine ⟨⟨hg 0, by dsimp only; decide, by dsimp only; decide, by dsimp only; decide, by dsimp only; decide, by dsimp only; decide⟩, fun j y hj => by omega, fun k n hk hn => ?_⟩
    obtain ⟨rfl, rfl⟩ := key k n 3 hn
    exact ⟨⟨by decide, by show (3 : Int) < 4; decide, by decide, fun m h => absurd h (Nat.lt_irrefl _)⟩, rfl⟩
  · obtain rfl := (Option.some.inj hx)
    refine ⟨⟨hg 1, by dsimp only; decide, by dsimp only; decide, by dsimp only; decide, by dsimp only; decide, by dsimp only; decide⟩, fun j y hj hy => ?_, fun k n hk hn => ?_⟩
    · obtain rfl : j = 0 := by omega
      obtain rfl := (Option.some.inj hy)
      kernel_rfl
    · obtain ⟨rfl, rfl⟩ := key k n 2 hn
      exact ⟨⟨by decide, by show (2 : Int) < 4; decide, by decide, fun m h => absurd h (Nat.lt_irrefl _)⟩, rfl⟩
  · obtain rfl := (Option.some.inj hx)
    refine ⟨⟨hg 2, by dsimp only; decide, by dsimp only; decide, by dsimp only; decide, by dsimp only; decide, by dsimp only; decide⟩, fun j y hj hy => ?_, fun k n hk hn => ?_⟩
    · obtain rfl | rfl : j = 0 ∨ j = 1 := by omega
      all_goals
        obtain rfl := (Option.some.inj hy)
        kernel_rfl
    · obtain ⟨rfl, rfl⟩ := key k n 1 hn
      exact ⟨⟨by decide, by show (1 : Int) < 4; decide, by decide, fun m h => absurd h (Nat.lt_irrefl _)⟩, rfl⟩
  · obtain rfl := (Option.some.inj hx)
    refine ⟨⟨hg 3, by dsimp only; decide, by dsimp only; decide, by dsimp only; decide, by dsimp only; decide, by dsimp only; decide⟩, fun j y hj hy => ?_, fun k n hk hn => ?_⟩
    · obtain rfl | rfl | rfl : j = 0 ∨ j = 1 ∨ j = 2 := by omega
      all_goals
        obtain rfl := (Option.some.inj hy)
        kernel_rfl
    · obtain ⟨rfl, rfl⟩ := key k n 0 hn
      exact ⟨⟨by decide, by show (0 : Int) < 4; decide, by decide, fun m h => absurd h (Nat.lt_irrefl _)⟩, rfl⟩
theorem ex_01 (B : Nat) : cst (exE B) 0 1 = 0 := by kernel_rfl
theorem ex_02 (B : Nat) : cst (exE B) 0 2 = 403 := by kernel_rfl
theorem ex_03 (B : Nat) : cst (exE B) 0 3 = -1 := by kernel_rfl
theorem ex_23 (B : Nat) : cst (exE B) 2 3 = 0 := by kernel_rfl
theorem ex_13 (B : Nat) : cst (exE B) 1 3 = 403 := by kernel_rfl
theorem ex_best (B : Nat) : bst (exE B) (fullS (exE B)) = 0 := by kernel_rfl
theorem ex_resO (B : Nat) : resO (exE B) = [1, 0, 3, 2] := by kernel_rfl
theorem ex_resW (B : Nat) : resW (exE B) = [false, true, false, true] := by kernel_rfl
end Go.Proofs.YtjjjdoealagpcaaDoor
