/- Layer 1: the squares of a set, its iterator. -/
import Derived.Test.YtjjchodcoeciaaaDoorQf
import Derived.Lib.TrailingZeros
import Derived.Laws.Bits64b
import Derived.RangeFuncNested
import Derived.RangeFuncBound
import Derived.RangeFuncCalls
import Derived.RangeFuncLeaves
import Derived.RangeFuncFrom
import Derived.Shelf.RegionOpen
import Derived.OwnWalkIn
import Derived.TacticsInMore
import Derived.LoopNIn
import Derived.LoopIn
namespace Go.Proofs.YtjjchodcoeciaaaDoor
open Go.RowKit
set_option linter.unusedSimpArgs false
set_option linter.unusedVariables false
attribute [local go_sem] Oper.semAt_some

/-- the table of the library lies in its variable -/
def TabAt (w : World) : Prop := ∀ j, j < 64 → w.cell? ⟨0, j, none⟩ = some (.int .u8 (Lib.deBruijn64tab.getD j 0))
theorem TabAt.pos {w : World} (h : TabAt w) : 0 < w.heap.size := by
  have h0 := h 0 (by decide)
  exact Nat.pos_of_ne_zero fun e => by simp [World.cell?, e] at h0
theorem TabAt.below {w w' : World} {B : Nat} (h : TabAt w) (hB : 0 < B) (hb : Below B w w') : TabAt w' :=
  fun j hj => (hb.cell (p := ⟨0, j, none⟩) hB).trans (h j hj)

theorem tz_key (x a : Nat) (hx : x < 18446744073709551616) (hx0 : x ≠ 0) (hlow : x &&& (18446744073709551616 - x) = a) :
    IntKind.u64.wrap (bits BinOp.and IntKind.u64 (x : Int) (IntKind.u64.wrap (-(x : Int))) * 285870213051353865) / 288230376151711744 = ((a * 285870213051353865 % 18446744073709551616 / 288230376151711744 : Nat) : Int) := by
  have e1 : IntKind.u64.wrap (-(x : Int)) = ((18446744073709551616 - x : Nat) : Int) := by rw [IntKind.wrap_u64]; omega
  rw [e1, bits_and_u64_nat x _ hx (by omega), hlow, IntKind.wrap_u64]
  omega
set_option maxHeartbeats 1000000 in
theorem tz_core (x k idx : Nat) (w : World) (hx0 : ((x : Int) == 0) = false)
    (key : IntKind.u64.wrap (bits BinOp.and IntKind.u64 (x : Int) (IntKind.u64.wrap (-(x : Int))) * 285870213051353865) / 288230376151711744 = (idx : Int))
    (hi : idx < 64) (hk : k < 64) (hcell : w.cell? ⟨0, idx, none⟩ = some (.int .u8 k)) :
    Calls Tryd.prog 45 #[.int .u64 x] w fun e w' => e = .returned (.int .i64 k) ∧ w = w' := by
  go_enter Tryd.func45, Tryd.ntmps45
  go_wp2_with (simp only [key])
  go_ret
  exact ⟨rfl, rfl⟩
theorem ptz (x : Nat) (w : World) (hx : x < 18446744073709551616) (hx0 : x ≠ 0) (hT : TabAt w) : Calls Tryd.prog 45 #[.int .u64 x] w fun e w' => e = .returned (.int .i64 (Lib.ctz 64 x : Nat)) ∧ w = w' := by
  obtain ⟨hlow, hk⟩ := Lib.lowest_bit 64 x hx0 hx
  obtain ⟨hi, htab⟩ := Lib.deBruijn64_at _ hk
  have hcell := hT _ hi
  rw [htab] at hcell
  exact tz_core x _ _ w (by simp; omega) (tz_key x _ hx hx0 hlow) hi hk hcell

theorem and_pred_lt {m : Nat} (h : m ≠ 0) : m &&& (m - 1) < m := by
  have : m &&& (m - 1) ≤ m - 1 := Nat.and_le_right
  omega
/-- the squares of a set, in order -/
def sqs (m : Nat) : List Nat := if h : m = 0 then [] else Lib.ctz 64 m :: sqs (m &&& (m - 1))
  termination_by m
  decreasing_by exact and_pred_lt h
theorem sqs_zero : sqs 0 = [] := by rw [sqs]; simp
theorem sqs_pos {m : Nat} (h : m ≠ 0) : sqs m = Lib.ctz 64 m :: sqs (m &&& (m - 1)) := by rw [sqs]; simp [h]

theorem peach (m : Int) (w : World) : Calls Tryd.prog 33 #[.int .u64 m] w fun e w' => e = .returned (.func (.func 44) #[] #[.pointer (some ⟨w.heap.size, 0, none⟩)]) ∧ w.alloc (.cells #[.int .u64 m] 28) = w' := by
  go_enter Tryd.func33, Tryd.ntmps33
  go_wp2
  go_ret
  exact ⟨rfl, rfl⟩

/-- a square's number -/
abbrev Sq := { x : Nat // x < 64 }
theorem ctz_lt {m : Nat} (h : m ≠ 0) (hm : m < 18446744073709551616) : Lib.ctz 64 m < 64 := (Lib.lowest_bit 64 m h hm).2

set_option maxHeartbeats 1000000 in
theorem each1 (n : Nat) (hn : 1 ≤ n) (l Bn n₀ m : Nat) (J Jx : List Sq → World → Prop)
    (hY : ∀ pre x W, J pre W → pre.length < (sqs m).length → YieldAt Fence.wide (n - 1) Tryd.prog l #[.int .i64 (x.1 : Nat)] W fun e W' =>
      (e = .returned (.bool true) ∧ J (pre ++ [x]) W' ∧ Below n₀ W W') ∨ (e = .returned (.bool false) ∧ Jx (pre ++ [x]) W'))
    (W : World) (hBn : W.cell? ⟨Bn, 0, none⟩ = some (.int .u64 (m : Int))) (hm : m < 18446744073709551616) (hT : TabAt W) (hn0 : 0 < n₀) (h0 : J [] W) :
    CallsIn Fence.wide n Tryd.prog 44 #[.func (.yield l) #[] #[], .pointer (some ⟨Bn, 0, none⟩)] W fun e W' => (∃ v, e = .returned v) ∧
      ((∃ ys, ys.map (·.1) = sqs m ∧ J ys W') ∨ (∃ pre, pre.map (·.1) <+: sqs m ∧ Jx pre W')) := by
  refine callsIn_of_wp Tryd.func44 rfl trivial ?_ rfl
  simp only [Tryd.ntmps44, List.size_toArray, List.length_cons, List.length_nil, Nat.reduceAdd, Nat.reduceSub, Array.replicate_succ, Array.replicate_zero, List.push_toArray, List.append_toArray, List.nil_append, List.cons_append]
  have hYH := Lib.hid hY
  have hTH := Lib.hid hT
  have h0H := Lib.hid h0
  clear hY hT h0
  gi_wp2
  gi_loopw [3] (fun s wr => ∃ (pre : List Sq) (rest : Nat), s = .int .u64 (rest : Int) ∧ Hid (sqs m = pre.map (·.1) ++ sqs rest) ∧ rest < 18446744073709551616 ∧ Hid (J pre wr) ∧ Hid (TabAt wr)) (fun s _ => (intOf s).toNat)
  case atStart => exact ⟨[], m, rfl, by simp [Hid], hm, h0H, hTH⟩
  case round =>
    obtain ⟨pre, rest, rfl, hx, hlt, hJ, hTw⟩ := hrel
    by_cases hz : rest = 0
    · subst hz
      gi_wp2
      go_end0
      exact ⟨⟨_, rfl⟩, .inl ⟨pre, by rw [hx.out, sqs_zero]; simp, hJ.out⟩⟩
    · have hz1 : ((rest : Int) != 0) = true := by simp; omega
      have hand : bits BinOp.and IntKind.u64 (rest : Int) ((rest : Int) - 1) = ((rest &&& (rest - 1) : Nat) : Int) := by
        rw [show (rest : Int) - 1 = ((rest - 1 : Nat) : Int) by omega]
        exact bits_and_u64_nat rest (rest - 1) hlt (by omega)
      have hx' := Lib.hid (sqs_pos hz)
      have hlt2 := Lib.hid (and_pred_lt hz)
      have hzH := Lib.hid hz
      have hpos : 1 ≤ rest := by omega
      have hyy := hYH.out pre ⟨Lib.ctz 64 rest, ctz_lt hzH.out hlt⟩ wr hJ.out (by rw [hx.out, hx'.out]; simp)
      obtain ⟨fn, tmps, assign, body, hy, hR⟩ := hyy
      clear hz
      have htz := Lib.hid (ptz rest wr hlt hzH.out hTw.out)
      gi_wp2_with (refine ⟨trivial, ?_⟩; gi_at_call 45; refine (callsIn_wide.2 htz.out).mono ?_; rintro e w' ⟨rfl, rfl⟩)
      refine hR.mono ?_
      rintro e W3 (⟨rfl, hJ3, hk3⟩ | ⟨rfl, hJx3⟩)
      · have hJ3H := Lib.hid hJ3
        have hT3 := Lib.hid (hTw.out.below hn0 hk3)
        clear hJ3 hk3
        gi_wp2
        go_roundw
        case rel => exact ⟨pre ++ [⟨Lib.ctz 64 rest, ctz_lt hzH.out hlt⟩], rest &&& (rest - 1), rfl, by rw [hx.out, hx'.out]; simp [Hid], by have := hlt2.out; omega, hJ3H, hT3⟩
        case measure => simp only [intOf]; have := hlt2.out; omega
      · have hJ3H := Lib.hid hJx3
        clear hJx3
        gi_wp2
        refine bodyPost_ret (results_none rfl _ _ _) rfl ?_
        exact ⟨⟨_, rfl⟩, .inr ⟨pre ++ [⟨Lib.ctz 64 rest, ctz_lt hzH.out hlt⟩], ⟨sqs (rest &&& (rest - 1)), by rw [hx.out, hx'.out]; simp⟩, hJ3H.out⟩⟩
theorem each_stops (n : Nat) (hn : 1 ≤ n) (Bn n₀ m : Nat) (w : World) (hBn : Bn < w.heap.size) (hn₀ : n₀ ≤ w.heap.size) (hn0 : 0 < n₀) (hc : w.cell? ⟨Bn, 0, none⟩ = some (.int .u64 (m : Int))) (hm : m < 18446744073709551616) (hT : TabAt w) :
    SeqStopsK Fence.wide n Tryd.prog 44 #[.pointer (some ⟨Bn, 0, none⟩)] (fun x : Sq => #[Value.int .i64 (x.1 : Int)]) (Below n₀) (fun ys => ys.map (·.1) = sqs m) (fun pre => pre.map (·.1) <+: sqs m) (sqs m).length w := fun l J Jx W hW _ _ hY h0 =>
  each1 n hn l Bn n₀ m J Jx hY W ((hW.cell (p := ⟨Bn, 0, none⟩) hBn).trans hc) hm (hT.below (Nat.lt_of_lt_of_le hn0 hn₀) hW) hn0 h0
end Go.Proofs.YtjjchodcoeciaaaDoor
