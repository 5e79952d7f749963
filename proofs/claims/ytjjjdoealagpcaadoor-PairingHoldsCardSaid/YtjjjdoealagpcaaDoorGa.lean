/- Layer 43: entrants in memory; within, has, color of the program and of the statements. -/
import Derived.Test.YtjjjdoealagpcaaDoorGpc
import Derived.Test.YtjjjdoealagpcaaDoorO1
import Derived.WalkKit
import Derived.ProofKit
import Derived.OpenShut
import Derived.Below
import Derived.BigQuiet
import Derived.Test.YtjjjdoealagpcaaDoorProg
namespace Go.Proofs.YtjjjdoealagpcaaDoor
open Go Go.RowKit
set_option linter.unusedSimpArgs false
set_option linter.unusedVariables false

def iEnc (x : Int) : List Value := [.int .i64 x]
theorem iEnc_len (x : Int) : (iEnc x).length = 1 := rfl
theorem iEnc_one (x : Int) : ∀ u ∈ iEnc x, u.oneCell' = true := by
  intro u hu
  simp only [iEnc, List.mem_cons, List.not_mem_nil, or_false] at hu
  subst hu; rfl
theorem intRow : RowOf Tryd.prog 23 3 1 8 :=
  RowOf.mk' (z := .int .i64 0) Tryd.underlying23 (by kernel_rfl) (by decide) (by decide) rfl
theorem rec1 {w : World} {B : Nat} {A : Option Addr} {l : List Int} (h : RecAt iEnc 1 w B A l) {k : Nat} {x : Int} (hx : l[k]? = some x) : ∃ b off, A = some ⟨b, off, none⟩ ∧ b < B ∧ w.cell? ⟨b, off + k, none⟩ = some (.int .i64 x) := by
  obtain ⟨b, off, e, hb, hc⟩ := h (by have := (List.getElem?_eq_some_iff.1 hx).1; omega)
  refine ⟨b, off, e, hb, ?_⟩
  have := hc k x hx 0 _ rfl
  simpa using this
/-- an entrant: its name, its numbers, whether it had a bye; whom it met: the numbers, their address and capacity -/
structure Ent where
  name : ByteArray
  rating : Int
  score : Int
  whites : Int
  blacks : Int
  last : Int
  bye : Bool
  met : List Int
  mA : Option Addr
  mc : Nat
instance : Inhabited Ent := ⟨⟨⟨#[]⟩, 0, 0, 0, 0, 0, false, [], none, 0⟩⟩
def eEnc (x : Ent) : List Value := [.string x.name, .int .i64 x.rating, .int .i64 x.score, .int .i64 x.whites, .int .i64 x.blacks, .int .i64 x.last, .bool x.bye, .slice x.mA x.met.length x.mc]
theorem eEnc_len (x : Ent) : (eEnc x).length = 8 := rfl
/-- a field in memory: its entrants, and the rows of those whom they met -/
structure Fld (w : World) (A : Option Addr) (l : List Ent) : Prop where
  row : RecAt eEnc 8 w w.heap.size A l
  met : ∀ x ∈ l, RecAt iEnc 1 w w.heap.size x.mA x.met
theorem Fld.next {w w' : World} {A : Option Addr} {l : List Ent} (h : Fld w A l) (hb : Below w.heap.size w w') : Fld w' A l :=
  ⟨(h.row.below (Nat.le_refl _) hb).more hb.size, fun x hx => ((h.met x hx).below (Nat.le_refl _) hb).more hb.size⟩
def inB (n a b : Int) : Bool := decide (a ≤ n) && decide (n ≤ b)
theorem pwithin (n a b : Int) (w : World) : Calls Tryd.prog 30 #[.int .i64 n, .int .i64 a, .int .i64 b] w fun e w' => e = .returned (.bool (inB n a b)) ∧ w = w' := by
  by_cases h1 : a ≤ n
  · by_cases h2 : n ≤ b
    · have hV : Hid (inB n a b = true) := by show inB n a b = true; unfold inB; rw [decide_eq_true h1, decide_eq_true h2]; rfl
      go_enter Tryd.func30, Tryd.ntmps30
      go_wp2_with fail
      go_ret
      exact ⟨by rw [hV.out]; rfl, rfl⟩
    · have hV : Hid (inB n a b = false) := by show inB n a b = false; unfold inB; rw [decide_eq_true h1, decide_eq_false h2]; rfl
      have h3 : (n ≤ b) = False := eq_false h2
      go_enter Tryd.func30, Tryd.ntmps30
      go_wp2_with fail
      go_ret
      exact ⟨by rw [hV.out]; rfl, rfl⟩
  · have hV : Hid (inB n a b = false) := by show inB n a b = false; unfold inB; rw [decide_eq_false h1]; rfl
    have h3 : (a ≤ n) = False := eq_false h1
    go_enter Tryd.func30, Tryd.ntmps30
    go_wp2_with fail
    go_ret
    exact ⟨by rw [hV.out]; rfl, rfl⟩
def memI (l : List Int) (n : Int) : Bool := l.any fun x => x == n
theorem memI_yes {l : List Int} {n x : Int} {k : Nat} (h : l[k]? = some x) (h2 : (x == n) = true) : memI l n = true := List.any_eq_true.2 ⟨x, List.mem_of_getElem? h, h2⟩
theorem memI_no {l : List Int} {n : Int} (h : ∀ (j : Nat) (x : Int), j < l.length → l[j]? = some x → (x == n) = false) : memI l n = false := by
  unfold memI
  rw [List.any_eq_false]
  intro x hx
  obtain ⟨j, hj, rfl⟩ := List.getElem_of_mem hx
  rw [h j _ hj (List.getElem?_eq_getElem hj)]
  decide
set_option maxRecDepth 100000 in
set_option maxHeartbeats 4000000 in
theorem lhas (A : Option Addr) (c : Nat) (l : List Int) (n : Int) (w : World) (hA : RecAt iEnc 1 w w.heap.size A l) (hl : l.length ≤ 100000) :
    Calls Tryd.prog 28 #[.slice A l.length c, .int .i64 n] w fun e w' => e = .returned (.bool (memI l n)) ∧ w = w' := by
  have hAH := Lib.hid hA
  clear hA
  go_enter Tryd.func28, Tryd.ntmps28
  go_wp2_with fail
  go_loop [5] (fun i => ∃ k : Nat, k ≤ l.length ∧ i = .int .i64 k ∧ Hid (∀ (j : Nat) (x : Int), j < k → l[j]? = some x → (x == n) = false)) (fun i => l.length - (intOf i).toNat)
  case atStart => exact ⟨0, by omega, rfl, fun j x hj => absurd hj (Nat.not_lt_zero _)⟩
  case round =>
    obtain ⟨k, hk, rfl, hgood⟩ := hrel
    by_cases hkn : k < l.length
    · obtain ⟨x, hx⟩ : ∃ x, l[k]? = some x := ⟨_, List.getElem?_eq_getElem hkn⟩
      obtain ⟨b, off, rfl, hb, m0⟩ := rec1 hAH.out hx
      have hkI : (k : Int) < (l.length : Int) := by omega
      have hk0 : (0 : Int) ≤ (k : Int) := Int.natCast_nonneg _
      clear hb
      rcases hv : x == n with _ | _
      · replace hx := Lib.hid hx
        go_wp2_with fail
        go_round
        case rel =>
          refine ⟨k + 1, by omega, by go_num, fun j y hj hy => ?_⟩
          by_cases hjk : j < k
          · exact hgood.out j y hjk hy
          · obtain rfl : j = k := by omega
            rw [hx.out] at hy
            rw [← Option.some.inj hy]; exact hv
        case measure => simp [intOf]; omega
      · have hyes := Lib.hid (memI_yes hx hv)
        replace hx := Lib.hid hx
        go_wp2_with fail
        go_ret
        exact ⟨by rw [hyes.out]; rfl, rfl⟩
    · obtain rfl : k = l.length := by omega
      have hno := Lib.hid (memI_no hgood.out)
      go_wp2_with fail
      go_ret
      exact ⟨by rw [hno.out]; rfl, rfl⟩
end Go.Proofs.YtjjjdoealagpcaaDoor
