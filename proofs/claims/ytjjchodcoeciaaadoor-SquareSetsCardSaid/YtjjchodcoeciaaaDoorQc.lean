/- Layer 1: names, and squares read from names. -/
import Derived.Test.YtjjchodcoeciaaaDoorQb
import Derived.Deep.RegionHeld3
import Derived.Deep.DrawnRows
import Derived.BigRegion
namespace Go.Proofs.YtjjchodcoeciaaaDoor
open Go.RowKit
set_option linter.unusedSimpArgs false
set_option linter.unusedVariables false
attribute [local go_sem ↓] Go.wp_at_zero Go.wp_at_succ

/-- the byte of a number -/
def bx (n : Int) : UInt8 := UInt8.ofNat n.toNat
theorem bx_of {n : Int} (h0 : 0 ≤ n) (h1 : n < 256) : n = ((bx n).toNat : Int) := by
  unfold bx
  rw [UInt8.toNat_ofNat']
  omega
/-- the name of a file and a rank -/
def nm (x y : Int) : ByteArray := ⟨#[bx (97 + x), bx (49 + y)]⟩
theorem conv2 (w : World) (b c : UInt8) (n m : Int) (hn : n = (b.toNat : Int)) (hm : m = (c.toNat : Int)) : (convert 70 9 (.slice (some ⟨w.heap.size, 0, none⟩) 2 2)).run Tryd.prog (w.alloc (.cells #[.int .u8 n, .int .u8 m] 5)) = .ok (.string ⟨#[b, c]⟩) (w.alloc (.cells #[.int .u8 n, .int .u8 m] 5)) := by
  subst hn hm
  refine run_convert_bytes_back (P := Tryd.prog) (w.alloc (.cells #[.int .u8 (b.toNat : Int), .int .u8 (c.toNat : Int)] 5)) 70 9 5 ⟨w.heap.size, 0, none⟩ 2 [b, c] Tryd.underlying70 Tryd.underlying5 Tryd.underlying9 ?_
  intro j hj
  obtain rfl | rfl : j = 0 ∨ j = 1 := by simp at hj; omega
  · simp [Addr.add]
  · simp [Addr.add]
theorem pname_yes (f r a : Int) (w : World) (h : sqB f r a = true) : Calls Tryd.prog 22 #[.agg #[.int .i64 f, .int .i64 r], .int .i64 a] w fun e w' => e = .returned (.tuple #[.string (nm (a % f) (a / f)), .int .i64 0]) ∧ Below w.heap.size w w' := by
  obtain ⟨hs, h0, h1⟩ := sqB_out h
  obtain ⟨f0, f1, r0, r1⟩ := szB_out hs
  obtain ⟨d0, d1, d2, d3, d4⟩ := place_bd h
  have hcv := fun w : World => conv2 w _ _ _ _ (bx_of (n := 97 + a % f) (by omega) (by omega)) (bx_of (n := 49 + a / f) (by omega) (by omega))
  have hnm : Hid (nm (a % f) (a / f) = ⟨#[bx (97 + a % f), bx (49 + a / f)]⟩) := rfl
  clear d4
  go_enter Tryd.func22, Tryd.ntmps22
  go_wp2_with (go_at_call 20; refine (pplace_yes _ _ _ _ h).mono ?_; rintro e w' ⟨rfl, hb⟩; have hbH := Lib.hid (below_box hb); clear hb)
  go_ret2
  exact ⟨by rw [hnm.out]; rfl, hbH.out.alloc hbH.out.size _⟩
theorem pname_no (f r a : Int) (w : World) (h : sqB f r a = false) : Calls Tryd.prog 22 #[.agg #[.int .i64 f, .int .i64 r], .int .i64 a] w fun e w' => e = .returned (.tuple #[.string ⟨#[]⟩, .int .i64 2]) ∧ Below w.heap.size w w' := by
  go_enter Tryd.func22, Tryd.ntmps22
  go_wp2_with (go_at_call 20; refine (pplace_no _ _ _ _ h).mono ?_; rintro e w' ⟨rfl, hb⟩; have hbH := Lib.hid (below_box hb); clear hb)
  go_ret2
  exact ⟨rfl, hbH.out⟩

theorem below_2 (w : World) (o o' : Obj) : Below w.heap.size w ((w.alloc o).alloc o').drew := (((Below.refl _ _).alloc (Nat.le_refl _) o).alloc (by simp) o').drew
/-- the reference's place, a struct -/
theorem rplace (f r a : Int) (w : World) (h : sqB f r a = true) : Calls Tryd.prog 24 #[.agg #[.int .i64 f, .int .i64 r], .int .i64 a] w fun e w' => e = .returned (.agg #[.int .i64 (a % f), .int .i64 (a / f)]) ∧ Below w.heap.size w w' := by
  obtain ⟨hs, h0, h1⟩ := sqB_out h
  obtain ⟨f0, f1, r0, r1⟩ := szB_out hs
  obtain ⟨m0, m1⟩ := mul_bd f0 f1 r0 r1
  have hf0 : (f == 0) = false := by rw [beq_eq_false_iff_ne]; omega
  have hbd := Lib.hid (place_bd h)
  have ht1 : a.tmod f = a % f := Int.tmod_eq_emod_of_nonneg h0
  have ht2 : a.tdiv f = a / f := Int.tdiv_eq_ediv_of_nonneg h0
  have d0 : 0 ≤ a / f := hbd.out.2.2.1
  have d1 : a / f < r := hbd.out.2.2.2.1
  have hw : IntKind.i64.wrap (a / f) = a / f := IntWalk.i64_in _ (by omega)
  go_enter Tryd.func24, Tryd.ntmps24
  go_wp2
  go_region
  go_wp2
  exact bodyPost_ret (v := .agg #[.int .i64 (a % f), .int .i64 (a / f)]) (by simp [results, Tryd.results24, go_sem]) rfl ⟨rfl, below_2 w _ _⟩
end Go.Proofs.YtjjchodcoeciaaaDoor
