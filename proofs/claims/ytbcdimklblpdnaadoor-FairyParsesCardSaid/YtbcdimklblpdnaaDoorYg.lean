/- Layer 27: sign, leg and at of the reference. -/
import Derived.Test.YtbcdimklblpdnaaDoorYf
import Derived.BigRegion
import Derived.Deep.RegionHeld3
namespace Go.Proofs.YtbcdimklblpdnaaDoor
open Go Go.RowKit
set_option linter.unusedSimpArgs false
set_option linter.unusedVariables false
def sgnI (n : Int) : Int := max (-1) (min 1 n)
/-- the box of a board -/
structure KBd (w : World) (B : Nat) (f r : Int) (P : Option Addr) (n c : Nat) : Prop where
  c0 : w.cell? ⟨B, 0, none⟩ = some (.int .i64 f)
  c1 : w.cell? ⟨B, 1, none⟩ = some (.int .i64 r)
  c2 : w.cell? ⟨B, 2, none⟩ = some (.slice P n c)
  lt : B < w.heap.size
abbrev bdV (f r : Int) (P : Option Addr) (n c : Nat) : Value := .agg #[.int .i64 f, .int .i64 r, .slice P n c]
abbrev bdO (f r : Int) (P : Option Addr) (n c : Nat) : Obj := .cells #[.int .i64 f, .int .i64 r, .slice P n c] 48
theorem KBd.new (w : World) (f r : Int) (P : Option Addr) (n c : Nat) : KBd (w.alloc (bdO f r P n c)) w.heap.size f r P n c :=
  ⟨by rw [cell_of_row _ _ _ _ _ _ (heap_alloc_new w _)]; rfl, by rw [cell_of_row _ _ _ _ _ _ (heap_alloc_new w _)]; rfl, by rw [cell_of_row _ _ _ _ _ _ (heap_alloc_new w _)]; rfl, by simp⟩
theorem KBd.next {w w' : World} {B : Nat} {f r : Int} {P : Option Addr} {n c : Nat} (h : KBd w B f r P n c) (hb : Below w.heap.size w w') : KBd w' B f r P n c :=
  ⟨(hb.cell (p := ⟨B, _, none⟩) h.lt).trans h.c0, (hb.cell (p := ⟨B, _, none⟩) h.lt).trans h.c1, (hb.cell (p := ⟨B, _, none⟩) h.lt).trans h.c2, Nat.lt_of_lt_of_le h.lt hb.size⟩
/-- the box of a step -/
structure KS (w : World) (B : Nat) (x y : Int) : Prop where
  c0 : w.cell? ⟨B, 0, none⟩ = some (.int .i64 x)
  c1 : w.cell? ⟨B, 1, none⟩ = some (.int .i64 y)
  lt : B < w.heap.size
theorem KS.new (w : World) (x y : Int) : KS (w.alloc (.cells #[.int .i64 x, .int .i64 y] 43)) w.heap.size x y :=
  ⟨by rw [cell_of_row _ _ _ _ _ _ (heap_alloc_new w _)]; rfl, by rw [cell_of_row _ _ _ _ _ _ (heap_alloc_new w _)]; rfl, by simp⟩
theorem KS.next {w w' : World} {B : Nat} {x y : Int} (h : KS w B x y) (hb : Below w.heap.size w w') : KS w' B x y :=
  ⟨(hb.cell (p := ⟨B, _, none⟩) h.lt).trans h.c0, (hb.cell (p := ⟨B, _, none⟩) h.lt).trans h.c1, Nat.lt_of_lt_of_le h.lt hb.size⟩
/-- the square that is some steps away; -1: there is none -/
def atV (f r a : Nat) (p q : Int) : Int := if inB ((a % f : Nat) + p) 0 ((f : Int) - 1) && inB ((a / f : Nat) + q) 0 ((r : Int) - 1) then ((a % f : Nat) + p) + ((a / f : Nat) + q) * f else -1
/-- the step to the square on the way -/
def legV (x y : Int) : Int × Int := if absI y < absI x then (sgnI x, 0) else if absI x < absI y then (0, sgnI y) else (sgnI x, sgnI y)
end Go.Proofs.YtbcdimklblpdnaaDoor
