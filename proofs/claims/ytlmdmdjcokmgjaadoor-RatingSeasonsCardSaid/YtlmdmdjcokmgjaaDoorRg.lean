/- Layer 45: the reference's balance and new rating. -/
import Derived.Test.YtlmdmdjcokmgjaaDoorRf
import Derived.Deep.RegionHeld3
import Derived.Deep.DrawnRows
namespace Go.Proofs.YtlmdmdjcokmgjaaDoor
open Go.RowKit
set_option linter.unusedSimpArgs false
set_option linter.unusedVariables false
attribute [local go_sem ↓] Go.wp_at_zero Go.wp_at_succ

set_option maxHeartbeats 1000000 in
theorem rbal (r : Int) (A : Option Addr) (l : List (Int × Int)) (c : Nat) (w : World) (hg : GamesAt w w.heap.size A l) (r0 : 0 ≤ r) (r1 : r ≤ 4000) (hv : vldG l = true) : Calls Tryd.prog 15 #[.int .i64 r, .slice A l.length c] w fun e w' => e = .returned (.int .i64 (balV r l)) ∧ Below w.heap.size w w' := by
  obtain ⟨hok, hm⟩ := vldG_out hv
  have hokH := Lib.hid hok
  have hgH := Lib.hid hg
  clear hg hok hv
  go_enter Tryd.func15, Tryd.ntmps15
  go_wp2
  go_loopw [5, 6] (fun s i wr => ∃ k : Nat, k ≤ l.length ∧ i = .int .i64 k ∧ s = .int .i64 (balK r l k) ∧ Below w.heap.size w wr) (fun _ i _ => l.length - (intOf i).toNat)
  case atStart => exact ⟨0, by omega, rfl, rfl, Below.refl _ _⟩
  case round =>
    obtain ⟨k, hk, rfl, rfl, hb⟩ := hrel
    have hbH := Lib.hid hb
    clear hb
    have hbd := balK_bd r l k hk (fun j hj => hokH.out j (by omega))
    obtain ⟨hbd0, hbd1⟩ := hbd
    by_cases hlt : k < l.length
    · obtain ⟨b, off, rfl, hbl, hc⟩ := hgH.out (by omega)
      have hc1 := (hbH.out.cell (p := ⟨b, off + k * 2, none⟩) hbl).trans (hc k hlt).1
      have hc2 := (hbH.out.cell (p := ⟨b, off + k * 2 + 1, none⟩) hbl).trans (hc k hlt).2
      have hsz := hbH.out.size
      have hsu := Lib.hid (balK_succ r l k)
      have hg := hokH.out k hlt
      clear hc
      generalize gameAt l k = g at *
      obtain ⟨x, y⟩ := g
      obtain ⟨x0, x1, y0, y1⟩ := hg
      have he := expV_bd r x
      obtain ⟨he0, he1⟩ := he
      have hi0 : (0 : Int) ≤ (k : Int) := Int.natCast_nonneg _
      have hi1 : (k : Int) < (l.length : Int) := by omega
      have hn1 := World.new_ne wr ⟨b, off + k * 2, none⟩ hc1
      have hn2 := World.new_ne wr ⟨b, off + k * 2 + 1, none⟩ hc2
      go_wp2
      go_region_held3 (fun w' => w'.cell? ⟨b, off + k * 2, none⟩ = some (.int .i64 x) ∧ w'.cell? ⟨b, off + k * 2 + 1, none⟩ = some (.int .i64 y)) (go_keep)
        (first | (go_at_call 11; refine (rexp _ _ _ r0 r1 x0 x1).mono ?_; rintro e w' ⟨rfl, rfl⟩))
      go_wp2
      go_roundw
      case rel => exact ⟨k + 1, by omega, by go_num, by rw [hsu.out]; exact vi (by rw [IntWalk.i64_in (50 * y) (by omega), IntWalk.i64_in (balK r l k + 50 * y) (by omega), IntWalk.i64_in _ (by omega)]; omega), by first | exact hbH.out.alloc hsz _ | exact below_drewN (hbH.out.alloc hsz _) _ | exact (hbH.out.alloc hsz _).drew⟩
      case measure => simp [intOf]; omega
    · have hge : l.length ≤ k := by omega
      go_wp2
      go_ret
      exact ⟨ri (by rw [show k = l.length by omega]; rfl), hbH.out⟩

theorem tdiv_pos {x : Int} (h : 0 ≤ x) : x.tdiv 100 = x / 100 ∧ x.tmod 100 = x % 100 :=
  ⟨Int.tdiv_eq_ediv_of_nonneg h, Int.tmod_eq_emod_of_nonneg h⟩
theorem tdiv_neg {x : Int} (h : x < 0) : x.tdiv 100 = -((-x) / 100) ∧ x.tmod 100 = -((-x) % 100) := by
  have h1 := (tdiv_pos (x := -x) (by omega)).1
  have h2 := (tdiv_pos (x := -x) (by omega)).2
  rw [Int.neg_tdiv] at h1
  rw [Int.neg_tmod] at h2
  omega
/-- the rounding as the reference has it -/
def rndV (x : Int) : Int := if 50 ≤ x.tmod 100 then x.tdiv 100 + 1 else if x.tmod 100 ≤ -50 then x.tdiv 100 - 1 else x.tdiv 100
theorem rndV_eq (x : Int) : roundV x = rndV x := by
  unfold roundV rndV
  by_cases h : x < 0
  · rw [(tdiv_neg h).1, (tdiv_neg h).2, if_pos h]
    split
    · omega
    · split <;> omega
  · rw [(tdiv_pos (x := x) (by omega)).1, (tdiv_pos (x := x) (by omega)).2, if_neg h]
    split
    · omega
    · split <;> omega
theorem tdiv_bd {x : Int} (h1 : -1200000 ≤ x) (h2 : x ≤ 1200000) : -12000 ≤ x.tdiv 100 ∧ x.tdiv 100 ≤ 12000 := by
  by_cases h : x < 0
  · rw [(tdiv_neg h).1]; omega
  · rw [(tdiv_pos (x := x) (by omega)).1]; omega
theorem rnd_1 {x : Int} (h : 50 ≤ x.tmod 100) : roundV x = x.tdiv 100 + 1 := by rw [rndV_eq]; exact if_pos h
theorem rnd_2 {x : Int} (h : x.tmod 100 < 50) (h' : x.tmod 100 ≤ -50) : roundV x = x.tdiv 100 - 1 := by rw [rndV_eq]; unfold rndV; rw [if_neg (by omega), if_pos h']
theorem rnd_3 {x : Int} (h : x.tmod 100 < 50) (h' : -50 < x.tmod 100) : roundV x = x.tdiv 100 := by rw [rndV_eq]; unfold rndV; rw [if_neg (by omega), if_neg (by omega)]

set_option maxHeartbeats 1000000 in
theorem rnext (r k : Int) (A : Option Addr) (l : List (Int × Int)) (c : Nat) (w : World) (hg : GamesAt w w.heap.size A l) (r0 : 0 ≤ r) (r1 : r ≤ 4000) (k0 : 1 ≤ k) (k1 : k ≤ 60) (hv : vldG l = true) : Calls Tryd.prog 16 #[.int .i64 r, .int .i64 k, .slice A l.length c] w fun e w' => e = .returned (.int .i64 (nextV r k l)) ∧ Below w.heap.size w w' := by
  have hb := balV_bd r l hv
  obtain ⟨hb0, hb1⟩ := hb
  have hm := mul_bd k0 k1 hb0 hb1
  have hn : Hid (nextV r k l = min 4000 (max 0 (r + roundV (k * balV r l)))) := rfl
  have hgH := Lib.hid hg
  have hvH := Lib.hid hv
  clear hg hv
  have hp : Hid (Calls Tryd.prog 15 #[.int .i64 r, .slice A l.length c] w fun e w' => e = .returned (.int .i64 (balV r l)) ∧ Below w.heap.size w w') := rbal r A l c w hgH.out r0 r1 hvH.out
  generalize balV r l = b at *
  obtain ⟨hm0, hm1⟩ := hm
  have hq := tdiv_bd hm0 hm1
  obtain ⟨hq0, hq1⟩ := hq
  have h3 : 50 ≤ (k * b).tmod 100 ∨ ((k * b).tmod 100 < 50 ∧ (k * b).tmod 100 ≤ -50) ∨ ((k * b).tmod 100 < 50 ∧ -50 < (k * b).tmod 100) := by
    generalize (k * b).tmod 100 = t
    omega
  rcases h3 with h3 | ⟨h3, h4⟩ | ⟨h3, h4⟩
  · have hr := Lib.hid (rnd_1 h3)
    go_enter Tryd.func16, Tryd.ntmps16
    go_wp2_with (go_at_call 15; refine (hp.out).mono ?_; rintro e w' ⟨rfl, hbw⟩)
    all_goals
      go_ret
      exact ⟨ri (by rw [hn.out, hr.out]; omega), hbw⟩
  · have hr := Lib.hid (rnd_2 h3 h4)
    go_enter Tryd.func16, Tryd.ntmps16
    go_wp2_with (go_at_call 15; refine (hp.out).mono ?_; rintro e w' ⟨rfl, hbw⟩)
    all_goals
      go_ret
      exact ⟨ri (by rw [hn.out, hr.out]; omega), hbw⟩
  · have hr := Lib.hid (rnd_3 h3 h4)
    go_enter Tryd.func16, Tryd.ntmps16
    go_wp2_with (go_at_call 15; refine (hp.out).mono ?_; rintro e w' ⟨rfl, hbw⟩)
    all_goals
      go_ret
      exact ⟨ri (by rw [hn.out, hr.out]; omega), hbw⟩
end Go.Proofs.YtlmdmdjcokmgjaaDoor
