/- Layer 7: the reference's text of a move. -/
import Derived.Test.YtlnphcdanadaeaaDoorMc
namespace Go.Proofs.YtlnphcdanadaeaaDoor
open Go.RowKit
set_option linter.unusedSimpArgs false
set_option linter.unusedVariables false

theorem undrew {w w' : World} (hb : Below w.drew.heap.size w.drew w') : Below w.heap.size w w' := ⟨hb.os, hb.tape, hb.output, hb.size, hb.block⟩
theorem ext_N (k : Nat) (h : k < 4) : (ByteArray.mk #[78, 66, 82, 81]).extract k (k + 1) = ⟨#[lb ((k : Int) + 2)]⟩ := by
  match k, h with
  | 0, _ => rfl
  | 1, _ => rfl
  | 2, _ => rfl
  | 3, _ => rfl
set_option maxRecDepth 100000 in
set_option maxHeartbeats 1000000 in
theorem rtext (f r a b p : Int) (w : World) (h : mvB f r a b p = true) : Calls Tryd.prog 12 #[.agg #[.int .i64 f, .int .i64 r], .agg #[.int .i64 a, .int .i64 b, .int .i8 p]] w fun e w' => e = .returned (.string (mvT f a b p)) ∧ Below w.heap.size w w' := by
  have hK := Lib.hid (MB.first f r a b p w 23 27)
  have c0 := hK.out.c0
  have c1 := hK.out.c1
  have m0 := hK.out.m0
  have m1 := hK.out.m1
  have m2 := hK.out.m2
  obtain ⟨ha, hb, hab, hp⟩ := mvB_out h
  have haH := Lib.hid ha
  have hbH := Lib.hid hb
  clear h ha hb
  have hsz : ∀ x y : Int, (nm x y).size = 2 := fun _ _ => rfl
  have hs1 := hsz (a % f) (a / f)
  have hs2 := hsz (b % f) (b / f)
  clear hsz
  rcases (by omega : p = 0 ∨ p = 2 ∨ p = 3 ∨ p = 4 ∨ p = 5) with h0 | h0 | h0 | h0 | h0
  all_goals
    subst h0
    go_enter Tryd.func12, Tryd.ntmps12
    go_wp2_with fail
    go_region_held3 (fun w' => w'.cell? ⟨w.heap.size, 0, none⟩ = some (.int .i64 f) ∧ w'.cell? ⟨w.heap.size, 1, none⟩ = some (.int .i64 r) ∧ w'.cell? ⟨w.heap.size + 1, 0, none⟩ = some (.int .i64 a) ∧ w'.cell? ⟨w.heap.size + 1, 1, none⟩ = some (.int .i64 b)) (first | exact ⟨c0, c1, m0, m1⟩ | go_keep)
      (first | (go_at_call 27; refine (rname_yes _ _ _ _ (by first | exact haH.out | exact hbH.out)).mono ?_; rintro e w' ⟨rfl, hbw⟩; replace hK : Hid (MB f r a b _ w w') := (by first | exact hK.out.next hbw | exact hK.out.next (undrew hbw)); replace c0 := hK.out.c0; replace c1 := hK.out.c1; replace m0 := hK.out.m0; replace m1 := hK.out.m1; replace m2 := hK.out.m2; clear hbw))
    all_goals
      go_wp2_with fail
      go_ret
      exact ⟨by first | rfl | (rw [show (0 : Int) = 0 from rfl]; rfl), hK.out.below⟩
end Go.Proofs.YtlnphcdanadaeaaDoor
