/- Layer 7: the text of a move. -/
import Derived.Test.YtlnphcdanadaeaaDoorMb
namespace Go.Proofs.YtlnphcdanadaeaaDoor
open Go.RowKit
set_option linter.unusedSimpArgs false
set_option linter.unusedVariables false

/-- the name of a square, the letter of a promotion, the text of a move -/
def nsq (f a : Int) : ByteArray := nm (a % f) (a / f)
def lb (p : Int) : UInt8 := bx (PC.letV p)
def mvT (f a b p : Int) : ByteArray := if p = 0 then nsq f a ++ nsq f b else nsq f a ++ nsq f b ++ ⟨#[lb p]⟩
theorem mvT_zero (f a b : Int) : mvT f a b 0 = nsq f a ++ nsq f b := rfl
theorem mvT_pos (f a b : Int) {p : Int} (h : p ≠ 0) : mvT f a b p = nsq f a ++ nsq f b ++ ⟨#[lb p]⟩ := if_neg h
theorem lb_of (p : Int) : PC.letV p = ((lb p).toNat : Int) := bx_of (PC.letV_bd p).1 (by have := (PC.letV_bd p).2; omega)
theorem rs2 {a b : ByteArray} {c : Value} (h : a = b) : Ending.returned (.tuple #[.string a, c]) = .returned (.tuple #[.string b, c]) := by rw [h]

theorem ptext_no (f r a b p : Int) (w : World) (h : mvB f r a b p = false) : Calls Tryd.prog 9 #[.agg #[.int .i64 f, .int .i64 r], .agg #[.int .i64 a, .int .i64 b, .int .i8 p]] w fun e w' => e = .returned (.tuple #[.string ⟨#[]⟩, .int .i64 2]) ∧ Below w.heap.size w w' := by
  have hK := Lib.hid (MB.first f r a b p w 23 27)
  have c0 := hK.out.c0
  have c1 := hK.out.c1
  have m0 := hK.out.m0
  have m1 := hK.out.m1
  have m2 := hK.out.m2
  go_enter Tryd.func9, Tryd.ntmps9
  go_wp2_with (go_at_call 21; refine (pmvalid _ _ _ _ _ _).mono ?_; rintro e w' ⟨rfl, hbw⟩; rw [h]; replace hK := Lib.hid (hK.out.next hbw); replace c0 := hK.out.c0; replace c1 := hK.out.c1; replace m0 := hK.out.m0; replace m1 := hK.out.m1; replace m2 := hK.out.m2; clear hbw)
  go_ret2
  exact ⟨rfl, hK.out.below⟩
set_option maxRecDepth 100000 in
theorem ptext_yes (f r a b p : Int) (w : World) (hk : PC.KindsAt w) (h : mvB f r a b p = true) (hpos : 0 < w.heap.size) : Calls Tryd.prog 9 #[.agg #[.int .i64 f, .int .i64 r], .agg #[.int .i64 a, .int .i64 b, .int .i8 p]] w fun e w' => e = .returned (.tuple #[.string (mvT f a b p), .int .i64 0]) ∧ Below w.heap.size w w' := by
  have hK := Lib.hid (MB.first f r a b p w 23 27)
  have c0 := hK.out.c0
  have c1 := hK.out.c1
  have m0 := hK.out.m0
  have m1 := hK.out.m1
  have m2 := hK.out.m2
  obtain ⟨ha, hb, hab, hp⟩ := mvB_out h
  have haH := Lib.hid ha
  have hbH := Lib.hid hb
  have hvH := Lib.hid h
  have hkH := Lib.hid hk
  clear hk h ha hb
  by_cases h0 : p = 0
  · subst h0
    go_enter Tryd.func9, Tryd.ntmps9
    go_wp2_with (first
      | (go_at_call 21; refine (pmvalid _ _ _ _ _ _).mono ?_; rintro e w' ⟨rfl, hbw⟩; rw [hvH.out]; replace hK := Lib.hid (hK.out.next hbw); replace c0 := hK.out.c0; replace c1 := hK.out.c1; replace m0 := hK.out.m0; replace m1 := hK.out.m1; replace m2 := hK.out.m2; clear hbw)
      | (go_at_call 24; refine (pname_yes _ _ _ _ (by first | exact haH.out | exact hbH.out)).mono ?_; rintro e w' ⟨rfl, hbw⟩; replace hK := Lib.hid (hK.out.next hbw); replace c0 := hK.out.c0; replace c1 := hK.out.c1; replace m0 := hK.out.m0; replace m1 := hK.out.m1; replace m2 := hK.out.m2; clear hbw))
    go_ret2
    exact ⟨rfl, hK.out.below⟩
  · have hp1 : 1 ≤ p := by omega
    have hp2 : p ≤ 15 := by omega
    have hT := Lib.hid (mvT_pos f a b h0)
    have hp0 : (p == 0) = false := by rw [beq_eq_false_iff_ne]; exact h0
    have hcv := fun w : World => PC.conv1 w (lb p) (PC.letV p) (lb_of p)
    clear hp h0
    go_enter Tryd.func9, Tryd.ntmps9
    go_wp2_with (first
      | (go_at_call 21; refine (pmvalid _ _ _ _ _ _).mono ?_; rintro e w' ⟨rfl, hbw⟩; rw [hvH.out]; replace hK := Lib.hid (hK.out.next hbw); replace c0 := hK.out.c0; replace c1 := hK.out.c1; replace m0 := hK.out.m0; replace m1 := hK.out.m1; replace m2 := hK.out.m2; clear hbw)
      | (go_at_call 24; refine (pname_yes _ _ _ _ (by first | exact haH.out | exact hbH.out)).mono ?_; rintro e w' ⟨rfl, hbw⟩; replace hK := Lib.hid (hK.out.next hbw); replace c0 := hK.out.c0; replace c1 := hK.out.c1; replace m0 := hK.out.m0; replace m1 := hK.out.m1; replace m2 := hK.out.m2; clear hbw)
      | (go_at_call 25; refine (PC.pletter_pos _ _ (hkH.out.below hpos hK.out.below) hp1 hp2).mono ?_; rintro e w' ⟨rfl, rfl⟩))
    go_ret2
    exact ⟨rs2 hT.out.symm, hK.out.below.alloc hK.out.below.size _⟩
end Go.Proofs.YtlnphcdanadaeaaDoor
