/- Layer 3: the text of a board: chunks, their iterator; a list of strings reversed. -/
import Derived.Test.YtjglpphfkkabnaaDoorBh
import Derived.Test.YtjglpphfkkabnaaDoorBsh
import Derived.Sort.OwnSorted
import Derived.RangeFuncNested
import Derived.RangeFuncBound
import Derived.RangeFuncCalls
import Derived.RangeFuncLeaves
import Derived.RangeFuncFrom
import Derived.Shelf.RegionOpen
import Derived.OwnWalkIn
import Derived.TacticsInMore
import Derived.LoopNIn
import Derived.LoopIn
import Derived.BigRegionIn
import Derived.Lib.MinMax
namespace Go.Proofs.YtjglpphfkkabnaaDoor
open Go.RowKit
set_option linter.unusedSimpArgs false
set_option linter.unusedVariables false
attribute [local go_sem] Oper.semAt_some

theorem flatSx (l : List ByteArray) : flatR sEnc l = (l.map (·.data.toList)).map Go.Proofs.encStr := by
  rw [flat1 (f := sEnc) (g := Value.string) (fun _ => rfl), List.map_map]
  refine List.map_congr_left fun x _ => ?_
  show Value.string x = Go.Proofs.encStr x.data.toList
  simp [Go.Proofs.encStr]
theorem preverse (A : Option Addr) (c : Nat) (ws : List ByteArray) (base : Nat) (w0 W : World) (hO : O1 sEnc 1 base 9 w0 W A c ws) (hl : ws.length ≤ 100000) :
    Calls Tryd.prog 49 #[.slice A ws.length c] W fun e w' => e = .returned (.tuple #[]) ∧ O1 sEnc 1 base 9 w0 w' A c ws.reverse ∧ W.grownBy w' (Value.slice A ws.length c).ownBlock := by
  rcases Nat.eq_zero_or_pos ws.length with h0 | h0
  · obtain rfl : ws = [] := List.eq_nil_of_length_eq_zero h0
    refine (sh_slices_Reverse_string_empty A c W).mono ?_
    rintro e w' ⟨rfl, rfl⟩
    exact ⟨rfl, hO, World.grownBy.refl _ _⟩
  · have ho := hO.own
    unfold Own1 at ho
    rw [flatSx] at ho
    rcases ho.2 with ⟨_, h1⟩ | ⟨g, cap, cur, hv, hb, hg, h1, h2, h3, h4⟩
    · omega
    · simp only [Value.slice.injEq] at hv
      obtain ⟨rfl, _, rfl⟩ := hv
      have hlen : ws.length = (ws.map (·.data.toList)).length := by rw [List.length_map]
      have hH := holds_of_block (ss := ws.map (·.data.toList)) hg (by rw [← hlen]; rw [Nat.mul_one] at h4; exact h4)
      have hc := sh_slices_Reverse_string g 0 c (ws.map (·.data.toList)) W hH (by rw [← hlen]; omega)
      rw [← hlen] at hc
      refine hc.mono ?_
      rintro e w' ⟨rfl, n, rfl⟩
      refine ⟨rfl, ⟨?_, ?_, ?_⟩, ?_⟩
      · have h5 := ownsRow_sorted (n := n) (os := #[]) (ts := (ws.map (·.data.toList)).reverse) (ss := ws.map (·.data.toList)) (by simp) hb hg (by rw [← hlen]; exact h1) h2 h3
        rw [Go.Sort.grow_empty, ← hlen] at h5
        unfold Own1
        rw [flatSx, List.length_reverse, List.map_reverse]
        exact h5
      · have h6 := grownBy_sorted (w := W) (g := g) (n := n) (os := #[]) (ws.map (·.data.toList)).reverse.toArray
        rw [Go.Sort.grow_empty] at h6
        exact hO.below.grown h6 hO.size (fun k hk => by cases hk; exact hb)
      · have h6 := grownBy_sorted (w := W) (g := g) (n := n) (os := #[]) (ws.map (·.data.toList)).reverse.toArray
        rw [Go.Sort.grow_empty] at h6
        exact Nat.le_trans hO.size h6.size
      · have h6 := grownBy_sorted (w := W) (g := g) (n := n) (os := #[]) (ws.map (·.data.toList)).reverse.toArray
        rw [Go.Sort.grow_empty] at h6
        exact h6
theorem pchunk (A : Option Addr) (n c : Nat) (f : Nat) (w : World) (hf : 1 ≤ f) : Calls Tryd.prog 47 #[.slice A n c, .int .i64 (f : Int)] w fun e w' => e = .returned (.func (.func 62) #[] #[.pointer (some ⟨w.heap.size, 0, none⟩), .pointer (some ⟨w.heap.size + 1, 0, none⟩)]) ∧ (w.alloc (.cells #[.slice A n c] 24)).alloc (.cells #[.int .i64 (f : Int)] 3) = w' := by
  have hf1 : ((f : Int) < 1) = False := by rw [eq_iff_iff, iff_false]; omega
  go_enter Tryd.func47, Tryd.ntmps47
  go_wp2
  go_ret
  exact ⟨rfl, rfl⟩
theorem range_pre {k n : Nat} (h : k < n) : List.range k ++ [k] <+: List.range n := by
  rw [← List.range_succ]
  refine ⟨(List.range (n - (k + 1))).map (k + 1 + ·), ?_⟩
  rw [← List.range_add]
  congr 1
  omega
/-- the number of a row -/
abbrev RX (n : Nat) := { x : Nat // x < n }
set_option maxHeartbeats 1000000 in
theorem chunk1 (n : Nat) (hn : 1 ≤ n) (l B1 B2 : Nat) (b off c f rows : Nat) (J Jx : List (RX rows) → World → Prop) (Kp : World → World → Prop) (hKp : ∀ A B, Kp A B → (∀ i : Nat, B.cell? ⟨B1, i, none⟩ = A.cell? ⟨B1, i, none⟩) ∧ (∀ i : Nat, B.cell? ⟨B2, i, none⟩ = A.cell? ⟨B2, i, none⟩)) (Ba : Nat) (hAb : AbidesFrom Ba J)
    (hY : ∀ pre x W, J pre W → pre.length < rows → YieldAt Fence.wide (n - 1) Tryd.prog l #[.slice (some ⟨b, off + x.1 * f, none⟩) f f] W fun e W' =>
      (e = .returned (.bool true) ∧ J (pre ++ [x]) W' ∧ Kp W W') ∨ (e = .returned (.bool false) ∧ Jx (pre ++ [x]) W'))
    (W : World) (hf : 1 ≤ f) (hm : rows * f ≤ c) (hmm : rows * f ≤ 100000) (hB1 : W.cell? ⟨B1, 0, none⟩ = some (.slice (some ⟨b, off, none⟩) (rows * f) c)) (hB2 : W.cell? ⟨B2, 0, none⟩ = some (.int .i64 (f : Int))) (h0 : J [] W) :
    CallsIn Fence.wide n Tryd.prog 62 #[.func (.yield l) #[] #[], .pointer (some ⟨B1, 0, none⟩), .pointer (some ⟨B2, 0, none⟩)] W fun e W' => (∃ v, e = .returned v) ∧
      ((∃ ys, ys.map (·.1) = List.range rows ∧ J ys W') ∨ (∃ pre, pre.map (·.1) <+: List.range rows ∧ Jx pre W')) := by
  refine callsIn_of_wp Tryd.func62 rfl trivial ?_ rfl
  simp only [Tryd.ntmps62, List.size_toArray, List.length_cons, List.length_nil, Nat.reduceAdd, Nat.reduceSub, Array.replicate_succ, Array.replicate_zero, List.push_toArray, List.append_toArray, List.nil_append, List.cons_append]
  have hJd : Hid (∀ pre W k, J pre W → J pre (W.drewN k)) := fun pre W k h => hAb pre W _ none h ⟨rfl, rfl, rfl, Nat.le_refl _, fun _ _ _ => rfl⟩ (fun r e => by cases e)
  have hYH := Lib.hid hY
  clear hAb
  have h0H := Lib.hid h0
  have hb1 := Lib.hid hB1
  have hb2 := Lib.hid hB2
  clear hY h0 hB1 hB2
  gi_wp2
  gi_loopw [4, 5] (fun s _ wr => ∃ (k : Nat) (pre : List (RX rows)), k ≤ rows ∧ s = .int .i64 ((k * f : Nat) : Int) ∧ Hid (pre.map (·.1) = List.range k) ∧ Hid (J pre wr) ∧ Hid (wr.cell? ⟨B1, 0, none⟩ = some (.slice (some ⟨b, off, none⟩) (rows * f) c)) ∧ Hid (wr.cell? ⟨B2, 0, none⟩ = some (.int .i64 (f : Int)))) (fun s _ _ => rows * f - (intOf s).toNat)
  case atStart => exact ⟨0, [], by omega, by rw [Nat.zero_mul]; rfl, rfl, h0H, hb1, hb2⟩
  case round =>
    obtain ⟨k, pre, hk, rfl, hpre, hJ, hq1, hq2⟩ := hrel
    have q1 := hq1.out
    have q2 := hq2.out
    by_cases hkn : k < rows
    · obtain ⟨i, hi⟩ : ∃ i, k * f = i := ⟨_, rfl⟩
      obtain ⟨m, hmf⟩ : ∃ m, rows * f = m := ⟨_, rfl⟩
      have hif : i + f ≤ m := by rw [← hi, ← hmf, ← Nat.succ_mul]; exact Nat.mul_le_mul_right _ hkn
      rw [hmf] at q1 hm hmm
      rw [hi, hmf]
      replace hi := Lib.hid hi
      replace hmf := Lib.hid hmf
      have hlt : (i : Int) < (m : Int) := by omega
      have hmin : min (f : Int) ((m - i : Nat) : Int) = (f : Int) := by rw [Int.min_def]; split <;> omega
      have hend : ((i : Int) + (f : Int)).toNat - i = f := by omega
      have hic : ¬ (i = c) := by omega
      gi_wp2
      refine wpIn_wide.2 ?_
      go_quiet (fail)
      go_wp2
      gi_wp2
      have hyy := hYH.out pre ⟨k, hkn⟩ (wr.drewN nq) (hJd.out _ _ _ hJ.out) (by have := congrArg List.length hpre.out; simp only [List.length_map, List.length_range] at this; omega)
      rw [show (⟨k, hkn⟩ : RX rows).1 * f = i from hi.out] at hyy
      obtain ⟨fn, tmps, assign, body, hy, hR⟩ := hyy
      rw [hy, Oper.uponIn_round]
      refine ⟨(fun h => by cases h), hR.mono ?_⟩
      rintro e W3 (⟨rfl, hJ3, hk3⟩ | ⟨rfl, hJx3⟩)
      · have hJ3H := Lib.hid hJ3
        obtain ⟨g1, g2⟩ := hKp _ _ hk3
        have hq3 : Hid (W3.cell? ⟨B1, 0, none⟩ = some (.slice (some ⟨b, off, none⟩) m c)) := (g1 0).trans (q1 : (wr.drewN nq).cell? ⟨B1, 0, none⟩ = _)
        have hq4 : Hid (W3.cell? ⟨B2, 0, none⟩ = some (.int .i64 (f : Int))) := (g2 0).trans hq2.out
        clear g1 g2
        clear hJ3 hk3 hy hR
        have hpre2 : Hid ((pre ++ [(⟨k, hkn⟩ : RX rows)]).map (·.1) = List.range (k + 1)) := by show _ = _; rw [List.map_append, hpre.out, List.range_succ]; rfl
        have hfi : (i : Int) + (f : Int) = (((k + 1) * f : Nat) : Int) := by rw [Nat.succ_mul, hi.out]; omega
        replace hfi := Lib.hid hfi
        have q3 := hq4.out
        gi_wp2
        go_roundw
        case rel => exact ⟨k + 1, pre ++ [⟨k, hkn⟩], by omega, by rw [hfi.out], hpre2, hJ3H, hq3, hq4⟩
        case measure => simp only [intOf]; omega
      · have hJ3H := Lib.hid hJx3
        clear hJx3 hy hR
        gi_wp2
        refine bodyPost_ret (results_none rfl _ _ _) rfl ?_
        exact ⟨⟨_, rfl⟩, .inr ⟨pre ++ [⟨k, hkn⟩], by rw [List.map_append, hpre.out]; exact range_pre (by omega), hJ3H.out⟩⟩
    · obtain rfl : k = rows := by omega
      gi_wp2
      go_end0
      exact ⟨⟨_, rfl⟩, .inl ⟨pre, hpre.out, hJ.out⟩⟩
theorem chunk_stops (n : Nat) (hn : 1 ≤ n) (B1 B2 : Nat) (b off c f rows : Nat) (Kp : World → World → Prop) (hKp : ∀ A B, Kp A B → (∀ i : Nat, B.cell? ⟨B1, i, none⟩ = A.cell? ⟨B1, i, none⟩) ∧ (∀ i : Nat, B.cell? ⟨B2, i, none⟩ = A.cell? ⟨B2, i, none⟩)) (w : World) (h1 : B1 < w.heap.size) (h2 : B2 < w.heap.size)
    (hf : 1 ≤ f) (hm : rows * f ≤ c) (hmm : rows * f ≤ 100000) (hB1 : w.cell? ⟨B1, 0, none⟩ = some (.slice (some ⟨b, off, none⟩) (rows * f) c)) (hB2 : w.cell? ⟨B2, 0, none⟩ = some (.int .i64 (f : Int))) :
    SeqStopsK Fence.wide n Tryd.prog 62 #[.pointer (some ⟨B1, 0, none⟩), .pointer (some ⟨B2, 0, none⟩)] (fun x : RX rows => #[Value.slice (some ⟨b, off + x.1 * f, none⟩) f f]) Kp (fun ys => ys.map (·.1) = List.range rows) (fun pre => pre.map (·.1) <+: List.range rows) rows w := fun l J Jx W hW hAb _ hY h0 =>
  chunk1 n hn l B1 B2 b off c f rows J Jx Kp hKp _ hAb hY W hf hm hmm ((hW.cell (p := ⟨B1, 0, none⟩) h1).trans hB1) ((hW.cell (p := ⟨B2, 0, none⟩) h2).trans hB2) h0
end Go.Proofs.YtjglpphfkkabnaaDoor
