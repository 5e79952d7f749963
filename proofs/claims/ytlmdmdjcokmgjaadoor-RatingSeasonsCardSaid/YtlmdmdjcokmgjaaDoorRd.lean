/- Layer 45: balance and next, of the program. -/
import Derived.Test.YtlmdmdjcokmgjaaDoorRc
namespace Go.Proofs.YtlmdmdjcokmgjaaDoor
open Go.RowKit
set_option linter.unusedSimpArgs false
set_option linter.unusedVariables false

theorem below_drewN {B : Nat} {a w : World} (h : Below B a w) (n : Nat) : Below B a (w.drewN n) := ⟨h.os, h.tape, h.output, h.size, h.block⟩
theorem balK_succ (r : Int) (l : List (Int × Int)) (k : Nat) : balK r l (k + 1) = balK r l k + (50 * (gameAt l k).2 - expV r (gameAt l k).1) := rfl

set_option maxHeartbeats 1000000 in
theorem pbal (r : Int) (A : Option Addr) (l : List (Int × Int)) (c : Nat) (w : World) (hl : LimsAt w) (hg : GamesAt w w.heap.size A l) (r0 : 0 ≤ r) (r1 : r ≤ 4000) (hv : vldG l = true) : Calls Tryd.prog 23 #[.int .i64 r, .slice A l.length c] w fun e w' => e = .returned (.int .i64 (balV r l)) ∧ Below w.heap.size w w' := by
  obtain ⟨hok, hm⟩ := vldG_out hv
  have hokH := Lib.hid hok
  have hgH := Lib.hid hg
  have hpos := hl.pos
  have hlH := Lib.hid hl
  clear hg hok hl hv
  go_enter Tryd.func23, Tryd.ntmps23
  go_wp2
  go_loopw [5, 10] (fun s i wr => ∃ k : Nat, k ≤ l.length ∧ i = .int .i64 k ∧ s = .int .i64 (balK r l k) ∧ Below w.heap.size w wr) (fun _ i _ => l.length - (intOf i).toNat)
  case atStart => exact ⟨0, by omega, rfl, rfl, Below.refl _ _⟩
  case round =>
    obtain ⟨k, hk, rfl, rfl, hb⟩ := hrel
    have hbH := Lib.hid hb
    clear hb
    have hbd := balK_bd r l k hk (fun j hj => hokH.out j (by omega))
    obtain ⟨hbd0, hbd1⟩ := hbd
    by_cases hlt : k < l.length
    · obtain ⟨b, off, rfl, hbl, hc⟩ := hgH.out (by omega)
      have hc1 := (hbH.out.cell (p := ⟨b, off + k * 2, none⟩) hbl).trans (hc k hlt).1
      have hc2 := (hbH.out.cell (p := ⟨b, off + k * 2 + 1, none⟩) hbl).trans (hc k hlt).2
      have hsz := hbH.out.size
      have hsu := Lib.hid (balK_succ r l k)
      have hg := hokH.out k hlt
      have hlw := Lib.hid (hlH.out.below hpos hbH.out)
      clear hc
      generalize gameAt l k = g at *
      obtain ⟨x, y⟩ := g
      obtain ⟨x0, x1, y0, y1⟩ := hg
      have he := expV_bd r x
      obtain ⟨he0, he1⟩ := he
      go_wp2
      go_quiet ((go_at_call 20; exact Calls.quiet_of_same ((pexp _ _ _ ((hlw.out.below (by omega) ((Below.refl _ _).alloc (Nat.le_refl _) _)).drewN _) r0 r1 x0 x1).mono fun _ _ ⟨h1, h2⟩ => ⟨h1, h2.symm⟩)))
      go_wp2
      go_roundw
      case rel => exact ⟨k + 1, by omega, by go_num, by rw [hsu.out], below_drewN (hbH.out.alloc hsz _) _⟩
      case measure => simp [intOf]; omega
    · have hge : l.length ≤ k := by omega
      go_wp2
      go_ret
      exact ⟨ri (by rw [show k = l.length by omega]; rfl), hbH.out⟩
end Go.Proofs.YtlmdmdjcokmgjaaDoor
