/- Layer 43: bits: TrailingZeros and OnesCount of small numbers. -/
import Derived.Test.YtjjjdoealagpcaaDoorGa
import Derived.Lib.TrailingZeros
import Derived.Laws.Bits64b
namespace Go.Proofs.YtjjjdoealagpcaaDoor
open Go Go.RowKit
set_option linter.unusedSimpArgs false
set_option linter.unusedVariables false
/-- the library's table, in memory -/
structure TabOK (w : World) : Prop where
  c : ∀ j, j < 64 → w.cell? ⟨1, j, none⟩ = some (.int .u8 (Lib.deBruijn64tab.getD j 0))
  lt : 1 < w.heap.size
theorem TabOK.next {w w' : World} (h : TabOK w) (hb : Below w.heap.size w w') : TabOK w' := ⟨fun j hj => (hb.cell (p := ⟨_, j, none⟩) h.lt).trans (h.c j hj), Nat.lt_of_lt_of_le h.lt hb.size⟩
/-- the lowest element of a set (as a number) -/
def lowE (n : Nat) : Nat := Lib.ctz 64 n
theorem tz64_key (x a : Nat) (hx : x < 18446744073709551616) (hx0 : x ≠ 0) (hlow : x &&& (18446744073709551616 - x) = a) :
    IntKind.u64.wrap (bits BinOp.and IntKind.u64 (x : Int) (IntKind.u64.wrap (-(x : Int))) * 285870213051353865) / 288230376151711744 = ((a * 285870213051353865 % 18446744073709551616 / 288230376151711744 : Nat) : Int) := by
  have e1 : IntKind.u64.wrap (-(x : Int)) = ((18446744073709551616 - x : Nat) : Int) := by rw [IntKind.wrap_u64]; omega
  rw [e1, bits_and_u64_nat x _ hx (by omega), hlow, IntKind.wrap_u64]
  omega
set_option maxRecDepth 100000 in
set_option maxHeartbeats 1000000 in
theorem tz_core (x k i : Nat) (w : World) (hx0 : ((x : Int) == 0) = false)
    (key : IntKind.u64.wrap (bits BinOp.and IntKind.u64 (x : Int) (IntKind.u64.wrap (-(x : Int))) * 285870213051353865) / 288230376151711744 = (i : Int))
    (hi : i < 64) (hk : k < 64) (hcell : w.cell? ⟨1, i, none⟩ = some (.int .u8 k)) :
    Calls Tryd.prog 44 #[.int .u64 (x : Int)] w fun e w' => e = .returned (.int .i64 (k : Int)) ∧ w = w' := by
  go_enter Tryd.func44, Tryd.ntmps44
  go_wp2_with (simp only [key])
  go_ret
  exact ⟨rfl, rfl⟩
theorem ptz64 (n : Nat) (w : World) (h0 : 0 < n) (h1 : n < 18446744073709551616) (hT : TabOK w) :
    Calls Tryd.prog 44 #[.int .u64 (n : Int)] w fun e w' => e = .returned (.int .i64 (lowE n : Int)) ∧ w = w' := by
  obtain ⟨hlow, hk⟩ := Lib.lowest_bit 64 n (by omega) h1
  obtain ⟨hi, htab⟩ := Lib.deBruijn64_at _ hk
  have hcell := hT.c _ hi
  rw [htab] at hcell
  exact tz_core n _ _ w (by rw [beq_eq_false_iff_ne]; omega) (tz64_key n _ h1 (by omega) hlow) hi hk hcell
theorem ptz (n : Nat) (w : World) (h0 : 0 < n) (h1 : n < 18446744073709551616) (hT : TabOK w) :
    Calls Tryd.prog 33 #[.int .u64 (n : Int)] w fun e w' => e = .returned (.int .i64 (lowE n : Int)) ∧ w = w' := by
  go_enter Tryd.func33, Tryd.ntmps33
  go_wp2_with fail
  go_at_call 44
  refine (ptz64 n w h0 h1 hT).mono ?_
  rintro e w' ⟨rfl, rfl⟩
  go_wp2_with fail
  go_ret
  exact ⟨rfl, rfl⟩
def oc1 (x : Int) : Int := IntKind.u64.wrap (bits BinOp.and IntKind.u64 (x / 2) 6148914691236517205 + bits BinOp.and IntKind.u64 x 6148914691236517205)
def oc2 (x : Int) : Int := IntKind.u64.wrap (bits BinOp.and IntKind.u64 (x / 4) 3689348814741910323 + bits BinOp.and IntKind.u64 x 3689348814741910323)
def oc3 (x : Int) : Int := bits BinOp.and IntKind.u64 (IntKind.u64.wrap (x / 16 + x)) 1085102592571150095
def oc4 (x : Int) : Int := IntKind.u64.wrap (x + x / 256)
def oc5 (x : Int) : Int := IntKind.u64.wrap (x + x / 65536)
def oc6 (x : Int) : Int := IntKind.u64.wrap (x + x / 4294967296)
def oc7 (x : Int) : Int := bits BinOp.and IntKind.i64 (IntKind.i64.wrap x) 127
/-- how many elements a set has (as a number) -/
def cntE (n : Nat) : Nat := ((List.range 8).filter fun i => n.testBit i).length
theorem oc_all : ∀ n : Fin 256, oc7 (oc6 (oc5 (oc4 (oc3 (oc2 (oc1 (n.val : Int))))))) = (cntE n.val : Int) ∧ cntE n.val ≤ 8 := by decide +kernel
set_option maxRecDepth 100000 in
set_option maxHeartbeats 1000000 in
theorem poc64 (n : Nat) (w : World) (h1 : n < 256) :
    Calls Tryd.prog 48 #[.int .u64 (n : Int)] w fun e w' => e = .returned (.int .i64 (cntE n : Int)) ∧ w = w' := by
  obtain ⟨key, k1⟩ := oc_all ⟨n, h1⟩
  simp only at key k1
  obtain ⟨x1, e1⟩ : ∃ x, oc1 (n : Int) = x := ⟨_, rfl⟩
  obtain ⟨x2, e2⟩ : ∃ x, oc2 x1 = x := ⟨_, rfl⟩
  obtain ⟨x3, e3⟩ : ∃ x, oc3 x2 = x := ⟨_, rfl⟩
  obtain ⟨x4, e4⟩ : ∃ x, oc4 x3 = x := ⟨_, rfl⟩
  obtain ⟨x5, e5⟩ : ∃ x, oc5 x4 = x := ⟨_, rfl⟩
  obtain ⟨x6, e6⟩ : ∃ x, oc6 x5 = x := ⟨_, rfl⟩
  rw [e1, e2, e3, e4, e5, e6] at key
  replace key := Lib.hid key
  unfold oc1 at e1
  unfold oc2 at e2
  unfold oc3 at e3
  unfold oc4 at e4
  unfold oc5 at e5
  unfold oc6 at e6
  go_enter Tryd.func48, Tryd.ntmps48
  go_wp2_with fail
  go_ret
  exact ⟨PC.ri (by rw [← key.out]; unfold oc7; rw [IntWalk.i64_left]), rfl⟩
theorem poc (n : Nat) (w : World) (h1 : n < 256) :
    Calls Tryd.prog 41 #[.int .u64 (n : Int)] w fun e w' => e = .returned (.int .i64 (cntE n : Int)) ∧ w = w' := by
  go_enter Tryd.func41, Tryd.ntmps41
  go_wp2_with fail
  go_at_call 48
  refine (poc64 n w h1).mono ?_
  rintro e w' ⟨rfl, rfl⟩
  go_wp2_with fail
  go_ret
  exact ⟨rfl, rfl⟩
end Go.Proofs.YtjjjdoealagpcaaDoor
