/- Layer 1: the theorem of stage 1: the main way. -/
import Derived.Test.YtjjchodcoeciaaaDoorQad
namespace Go.Proofs.YtjjchodcoeciaaaDoor
open Go.RowKit
set_option linter.unusedSimpArgs false
set_option linter.unusedVariables false
set_option pp.deepTerms true
set_option pp.maxSteps 10000000

/-- a square of a set -/
abbrev SqM (m : Nat) := { x : Nat // x ∈ sqs m }
attribute [local go_sem] Oper.semAt_some
set_option maxHeartbeats 1000000 in
theorem eachm1 (n : Nat) (hn : 1 ≤ n) (l Bn n₀ m : Nat) (J Jx : List (SqM m) → World → Prop)
    (hY : ∀ pre x W, J pre W → pre.length < (sqs m).length → YieldAt Fence.wide (n - 1) Tryd.prog l #[.int .i64 (x.1 : Nat)] W fun e W' =>
      (e = .returned (.bool true) ∧ J (pre ++ [x]) W' ∧ Below n₀ W W') ∨ (e = .returned (.bool false) ∧ Jx (pre ++ [x]) W'))
    (W : World) (hBn : W.cell? ⟨Bn, 0, none⟩ = some (.int .u64 (m : Int))) (hm : m < 18446744073709551616) (hT : TabAt W) (hn0 : 0 < n₀) (h0 : J [] W) :
    CallsIn Fence.wide n Tryd.prog 44 #[.func (.yield l) #[] #[], .pointer (some ⟨Bn, 0, none⟩)] W fun e W' => (∃ v, e = .returned v) ∧
      ((∃ ys, ys.map (·.1) = sqs m ∧ J ys W') ∨ (∃ pre, pre.map (·.1) <+: sqs m ∧ Jx pre W')) := by
  refine callsIn_of_wp Tryd.func44 rfl trivial ?_ rfl
  simp only [Tryd.ntmps44, List.size_toArray, List.length_cons, List.length_nil, Nat.reduceAdd, Nat.reduceSub, Array.replicate_succ, Array.replicate_zero, List.push_toArray, List.append_toArray, List.nil_append, List.cons_append]
  have hYH := Lib.hid hY
  have hTH := Lib.hid hT
  have h0H := Lib.hid h0
  clear hY hT h0
  gi_wp2
  gi_loopw [3] (fun s wr => ∃ (pre : List (SqM m)) (rest : Nat), s = .int .u64 (rest : Int) ∧ Hid (sqs m = pre.map (·.1) ++ sqs rest) ∧ rest < 18446744073709551616 ∧ Hid (J pre wr) ∧ Hid (TabAt wr)) (fun s _ => (intOf s).toNat)
  case atStart => exact ⟨[], m, rfl, by simp [Hid], hm, h0H, hTH⟩
  case round =>
    obtain ⟨pre, rest, rfl, hx, hlt, hJ, hTw⟩ := hrel
    by_cases hz : rest = 0
    · subst hz
      gi_wp2
      go_end0
      exact ⟨⟨_, rfl⟩, .inl ⟨pre, by have h := hx.out; rw [sqs_zero, List.append_nil] at h; exact h.symm, hJ.out⟩⟩
    · have hz1 : ((rest : Int) != 0) = true := by simp; omega
      have hand : bits BinOp.and IntKind.u64 (rest : Int) ((rest : Int) - 1) = ((rest &&& (rest - 1) : Nat) : Int) := by
        rw [show (rest : Int) - 1 = ((rest - 1 : Nat) : Int) by omega]
        exact bits_and_u64_nat rest (rest - 1) hlt (by omega)
      have hx' := Lib.hid (sqs_pos hz)
      have hlt2 := Lib.hid (and_pred_lt hz)
      have hzH := Lib.hid hz
      have hpos : 1 ≤ rest := by omega
      have hmem : Hid (Lib.ctz 64 rest ∈ sqs m) := by show _ ∈ _; rw [hx.out, hx'.out]; simp
      have hyy := hYH.out pre ⟨Lib.ctz 64 rest, hmem.out⟩ wr hJ.out (by have h := congrArg List.length hx.out; rw [hx'.out] at h; simp only [List.length_append, List.length_map, List.length_cons] at h; omega)
      obtain ⟨fn, tmps, assign, body, hy, hR⟩ := hyy
      clear hz
      have htz := Lib.hid (ptz rest wr hlt hzH.out hTw.out)
      gi_wp2_with (refine ⟨trivial, ?_⟩; gi_at_call 45; refine (callsIn_wide.2 htz.out).mono ?_; rintro e w' ⟨rfl, rfl⟩)
      refine hR.mono ?_
      rintro e W3 (⟨rfl, hJ3, hk3⟩ | ⟨rfl, hJx3⟩)
      · have hJ3H := Lib.hid hJ3
        have hT3 := Lib.hid (hTw.out.below hn0 hk3)
        clear hJ3 hk3
        gi_wp2
        go_roundw
        case rel => exact ⟨pre ++ [⟨Lib.ctz 64 rest, hmem.out⟩], rest &&& (rest - 1), rfl, by show _ = _; simp only [List.map_append, List.map_cons, List.map_nil, List.append_assoc, List.singleton_append]; exact hx.out.trans (by rw [hx'.out]), by have := hlt2.out; omega, hJ3H, hT3⟩
        case measure => simp only [intOf]; have := hlt2.out; omega
      · have hJ3H := Lib.hid hJx3
        clear hJx3
        gi_wp2
        refine bodyPost_ret (results_none rfl _ _ _) rfl ?_
        exact ⟨⟨_, rfl⟩, .inr ⟨pre ++ [⟨Lib.ctz 64 rest, hmem.out⟩], ⟨sqs (rest &&& (rest - 1)), by simp only [List.map_append, List.map_cons, List.map_nil, List.append_assoc, List.singleton_append]; exact (hx.out.trans (by rw [hx'.out])).symm⟩, hJ3H.out⟩⟩
theorem eachm_stops (n : Nat) (hn : 1 ≤ n) (Bn n₀ m : Nat) (w : World) (hBn : Bn < w.heap.size) (hn₀ : n₀ ≤ w.heap.size) (hn0 : 0 < n₀) (hc : w.cell? ⟨Bn, 0, none⟩ = some (.int .u64 (m : Int))) (hm : m < 18446744073709551616) (hT : TabAt w) :
    SeqStopsK Fence.wide n Tryd.prog 44 #[.pointer (some ⟨Bn, 0, none⟩)] (fun x : SqM m => #[Value.int .i64 (x.1 : Int)]) (Below n₀) (fun ys => ys.map (·.1) = sqs m) (fun pre => pre.map (·.1) <+: sqs m) (sqs m).length w := fun l J Jx W hW _ _ hY h0 =>
  eachm1 n hn l Bn n₀ m J Jx hY W ((hW.cell (p := ⟨Bn, 0, none⟩) hBn).trans hc) hm (hT.below (Nat.lt_of_lt_of_le hn0 hn₀) hW) hn0 h0

theorem cell_putObj {W : World} {D b i : Nat} {o : Obj} (h : b ≠ D) : (W.putObj D o).cell? ⟨b, i, none⟩ = W.cell? ⟨b, i, none⟩ := by
  simp only [World.cell?]; rw [World.putObj_heap_other h]
theorem m_and (m g : Nat) (hg : g < 18446744073709551616) (i : Nat) (hi : i < 64) : (m &&& (18446744073709551615 - g)).testBit i = (m.testBit i && !g.testBit i) := by
  rw [Nat.testBit_and, show 18446744073709551615 - g = 2 ^ 64 - (g + 1) by omega, Nat.testBit_two_pow_sub_succ (by simpa using hg)]
  simp [hi]

set_option maxRecDepth 100000 in
set_option maxHeartbeats 2000000 in
theorem holds_main (f r a b c dx dy : Int) (m : Nat) (w : World) (hT : TabAt w) (ha : sqB f r a = true) (hb' : sqB f r b = true) (hc' : sqB f r c = true) (hs : szB f r = true) (hm : m < 18446744073709551616) (hon : Hid (∀ x ∈ LI m 64, x < f * r)) (x0 : -8 ≤ dx) (x1 : dx ≤ 8) (y0 : -8 ≤ dy) (y1 : dy ≤ 8) :
    Calls Tryd.prog 8 #[.agg #[.int .i64 f, .int .i64 r], .int .i64 a, .int .i64 b, .int .i64 c, .int .u64 (m : Int), .int .i64 dx, .int .i64 dy] w fun e w' => e = .returned (.bool true) ∧ Below w.heap.size w w' := by
  have hTH := Lib.hid hT
  have hpos := hT.pos
  have haH := Lib.hid ha
  have hbH := Lib.hid hb'
  have hcH := Lib.hid hc'
  have hsH := Lib.hid hs
  have s1 := dist_symm f b a
  obtain ⟨z0, z1⟩ := dist_bd ha hb'
  obtain ⟨z2, z3⟩ := dist_bd hb' hc'
  have z4 := dist_tri f a b c
  have z5 : (distV f a b == 0) = (a == b) := by
    rw [Bool.eq_iff_iff, beq_iff_eq, beq_iff_eq]; exact dist_zero ha hb'
  clear hT ha hb' hc' hs
  have hK := Lib.hid (HK.first f r dx dy w 23 3 3 4)
  have c0 := hK.out.c0
  have c1 := hK.out.c1
  have cx := hK.out.cx
  have cy := hK.out.cy
  have cr := hK.out.cr
  have fr := hK.out.fr
  refine (callsIn_wide (n := 5)).1 ?_
  refine callsIn_of_wp_marks Tryd.func8 rfl trivial ?_ rfl
  simp only [Tryd.ntmps8, List.size_toArray, List.length_cons, List.length_nil, Nat.reduceAdd, Nat.reduceSub, Array.replicate_succ, Array.replicate_zero, List.push_toArray, List.append_toArray, List.nil_append, List.cons_append]
  gi_wp2_with (first
    | (refine ⟨trivial, ?_⟩; gi_at_call 15; refine (callsIn_wide.2 (rvalidsq _ _ _ _)).mono ?_; rintro e w' ⟨rfl, hb⟩; (first | rw [haH.out] | rw [hbH.out] | rw [hcH.out]); replace hK := Lib.hid (hK.out.next hb); replace c0 := hK.out.c0; replace c1 := hK.out.c1; replace cx := hK.out.cx; replace cy := hK.out.cy; replace cr := hK.out.cr; replace fr := hK.out.fr; clear hb)
    | (refine ⟨trivial, ?_⟩; gi_at_call 31; refine (callsIn_wide.2 (ron_on _ _ _ _ hsH.out hon.out)).mono ?_; rintro e w' ⟨rfl, hb⟩; replace hK := Lib.hid (hK.out.next hb); replace c0 := hK.out.c0; replace c1 := hK.out.c1; replace cx := hK.out.cx; replace cy := hK.out.cy; replace cr := hK.out.cr; replace fr := hK.out.fr; clear hb)
    | (refine ⟨trivial, ?_⟩; gi_at_call 20; refine (callsIn_wide.2 (pplace_yes _ _ _ _ haH.out)).mono ?_; rintro e w' ⟨rfl, hb⟩; replace hK := Lib.hid (hK.out.next hb); replace c0 := hK.out.c0; replace c1 := hK.out.c1; replace cx := hK.out.cx; replace cy := hK.out.cy; replace cr := hK.out.cr; replace fr := hK.out.fr; clear hb)
    | (refine ⟨trivial, ?_⟩; gi_at_call 19; refine (callsIn_wide.2 (pat_place _ _ a _ haH.out)).mono ?_; rintro e w' ⟨rfl, hb⟩; replace hK := Lib.hid (hK.out.next hb); replace c0 := hK.out.c0; replace c1 := hK.out.c1; replace cx := hK.out.cx; replace cy := hK.out.cy; replace cr := hK.out.cr; replace fr := hK.out.fr; clear hb)
    | (refine ⟨trivial, ?_⟩; gi_at_call 22; refine (callsIn_wide.2 (pname_yes _ _ _ _ haH.out)).mono ?_; rintro e w' ⟨rfl, hb⟩; replace hK := Lib.hid (hK.out.next hb); replace c0 := hK.out.c0; replace c1 := hK.out.c1; replace cx := hK.out.cx; replace cy := hK.out.cy; replace cr := hK.out.cr; replace fr := hK.out.fr; clear hb)
    | (refine ⟨trivial, ?_⟩; gi_at_call 26; refine (callsIn_wide.2 (pparse_nm _ _ a _ haH.out)).mono ?_; rintro e w' ⟨rfl, hb⟩; replace hK := Lib.hid (hK.out.next hb); replace c0 := hK.out.c0; replace c1 := hK.out.c1; replace cx := hK.out.cx; replace cy := hK.out.cy; replace cr := hK.out.cr; replace fr := hK.out.fr; clear hb)
    | (refine ⟨trivial, ?_⟩; gi_at_call 28; refine (callsIn_wide.2 (pdist_yes _ _ _ _ _ (by first | exact haH.out | exact hbH.out | exact hcH.out) (by first | exact haH.out | exact hbH.out | exact hcH.out))).mono ?_; rintro e w' ⟨rfl, hb⟩; replace hK := Lib.hid (hK.out.next hb); replace c0 := hK.out.c0; replace c1 := hK.out.c1; replace cx := hK.out.cx; replace cy := hK.out.cy; replace cr := hK.out.cr; replace fr := hK.out.fr; clear hb))
  refine ⟨trivial, ?_⟩
  gi_at_call 30
  refine (callsIn_wide.2 (pshift_any f r dx dy m _ (hTH.out.below hpos hK.out.below) hsH.out hm hon.out)).mono ?_
  rintro e w' ⟨rfl, hb⟩
  replace hK := Lib.hid (hK.out.next hb); replace c0 := hK.out.c0; replace c1 := hK.out.c1; replace cx := hK.out.cx; replace cy := hK.out.cy; replace cr := hK.out.cr; replace fr := hK.out.fr; clear hb
  gi_wp2_with (fail)
  refine ⟨trivial, ?_⟩
  gi_at_call 30
  refine (callsIn_wide.2 (pshift_any f r (-dx) (-dy) (accS f r dx dy (sqs m)) _ (hTH.out.below hpos hK.out.below) hsH.out (accS_lt hsH.out _) (accS_on hsH.out _))).mono ?_
  rintro e w' ⟨rfl, hb⟩
  replace hK := Lib.hid (hK.out.next hb); replace c0 := hK.out.c0; replace c1 := hK.out.c1; replace cx := hK.out.cx; replace cy := hK.out.cy; replace cr := hK.out.cr; replace fr := hK.out.fr; clear hb
  have hsub := Lib.hid (again_sub (dx := dx) (dy := dy) hsH.out hm hon.out)
  have hgl := Lib.hid (accS_lt (dx := -dx) (dy := -dy) hsH.out (sqs (accS f r dx dy (sqs m))))
  have hbits := Lib.hid (again_bit (dx := dx) (dy := dy) hsH.out hm hon.out)
  generalize accS f r (-dx) (-dy) (sqs (accS f r dx dy (sqs m))) = g at *
  have hz : bits BinOp.andNot IntKind.u64 (g : Int) (m : Int) = 0 := by
    rw [u64_andNot_nat g m hgl.out hm, hsub.out]; rfl
  have hd : bits BinOp.andNot IntKind.u64 (m : Int) (g : Int) = ((m &&& (18446744073709551615 - g) : Nat) : Int) := u64_andNot_nat m g hm hgl.out
  gi_wp2_with (refine ⟨trivial, ?_⟩; gi_at_call 33; refine (callsIn_wide.2 (peach _ _)).mono ?_; rintro e w'' ⟨rfl, rfl⟩)
  have hbA : Hid (Below w'.heap.size w' (w'.alloc (.cells #[.int .u64 ((m &&& (18446744073709551615 - g) : Nat) : Int)] 28))) := (Below.refl _ _).alloc (Nat.le_refl _) _
  have hTw : Hid (TabAt w') := hTH.out.below hpos hK.out.below
  have hwlt := hK.out.lt
  have hmm : m &&& (18446744073709551615 - g) < 18446744073709551616 := Nat.lt_of_le_of_lt Nat.and_le_left hm
  have hc0 : (w'.alloc (.cells #[.int .u64 ((m &&& (18446744073709551615 - g) : Nat) : Int)] 28)).cell? ⟨w'.heap.size, 0, none⟩ = some (.int .u64 ((m &&& (18446744073709551615 - g) : Nat) : Int)) := by
    rw [cell_of_row _ _ _ _ _ _ (heap_alloc_new w' _)]; rfl
  have hc0H := Lib.hid hc0
  clear hc0 c0 c1 cx cy cr fr hz hd
  refine wpIn_rangeFunc_ownF (n := 5) rfl (by omega) (gf := 44) (lb := #[.pointer (some ⟨w'.heap.size, 0, none⟩)]) rfl trivial (enters_of Tryd.func44 (by kernel_rfl) rfl)
    (eachm_stops 4 (by omega) w'.heap.size w'.heap.size (m &&& (18446744073709551615 - g)) _ (by simp) (by simp) (by omega) hc0H.out hmm (hTw.out.below (by omega) hbA.out)) belowK_t (belowK_b (by simp)) (Below.refl _ _) (fun _ => rfl)
    (fun (pre : List (SqM (m &&& (18446744073709551615 - g)))) W => Below w'.heap.size w' W)
    (fun _ _ _ => False)
    (ownFrom_below (Nat.le_refl _) (by simp))
    (fun _ _ _ _ _ hs _ _ => hs)
    hbA.out
    (fun x : SqM (m &&& (18446744073709551615 - g)) => { tmps := #[Value.agg #[Value.int IntKind.i64 f, Value.int IntKind.i64 r], Value.int IntKind.i64 a, Value.int IntKind.i64 b, Value.int IntKind.i64 c, Value.int IntKind.u64 ↑m, Value.int IntKind.i64 dx, Value.int IntKind.i64 dy, Value.pointer (some { block := w.heap.size, off := 0 }), undef, undef, undef, undef, Value.pointer (some { block := w.heap.size + 1, off := 0 }), Value.pointer (some { block := w.heap.size + 1 + 1, off := 0 }), Value.pointer (some { block := w.heap.size + 1 + 1 + 1, off := 0 }), Value.int IntKind.i64 (a % f), Value.int IntKind.i64 (a / f), Value.int IntKind.i64 0, Value.int IntKind.i64 a, Value.int IntKind.i64 0, Value.string (nm (a % f) (a / f)), Value.int IntKind.i64 0, Value.int IntKind.i64 a, Value.int IntKind.i64 0, Value.int IntKind.i64 (distV f a b), Value.int IntKind.i64 (distV f a b), Value.int IntKind.i64 (distV f b c), Value.int IntKind.i64 (distV f a c), Value.int IntKind.u64 ↑(accS f r dx dy (sqs m)), Value.int IntKind.u64 ↑g, Value.int IntKind.i64 (x.1 : Int), undef, undef, undef, undef, undef, Value.agg #[Value.int IntKind.i64 f, Value.int IntKind.i64 r], Value.int IntKind.i64 a, Value.bool true, Value.bool false, Value.bool false, Value.agg #[Value.int IntKind.i64 f, Value.int IntKind.i64 r], Value.int IntKind.i64 b, Value.bool true, Value.bool false, Value.bool false, Value.bool false, Value.agg #[Value.int IntKind.i64 f, Value.int IntKind.i64 r], Value.int IntKind.i64 c, Value.bool true, Value.bool false, Value.bool false, Value.bool false, Value.agg #[Value.int IntKind.i64 f, Value.int IntKind.i64 r], Value.int IntKind.u64 ↑m, Value.bool true, Value.bool false, Value.bool false, Value.bool false, Value.int IntKind.i64 dx, Value.bool (decide (dx < -8)), Value.bool (decide (dx < -8)), Value.bool (decide (dx < -8)), Value.int IntKind.i64 dx, Value.bool (decide (8 < dx)), Value.bool (decide (dx < -8) || decide (8 < dx)), Value.bool (decide (dx < -8) || decide (8 < dx)), Value.int IntKind.i64 dy, Value.bool (decide (dy < -8)), Value.bool (decide (dx < -8) || decide (8 < dx) || decide (dy < -8)), Value.bool (decide (dx < -8) || decide (8 < dx) || decide (dy < -8)), Value.int IntKind.i64 dy, Value.bool (decide (8 < dy)), Value.bool (decide (dx < -8) || decide (8 < dx) || decide (dy < -8) || decide (8 < dy)), undef, Value.tuple #[Value.int IntKind.i64 (a % f), Value.int IntKind.i64 (a / f), Value.int IntKind.i64 0], Value.agg #[Value.int IntKind.i64 f, Value.int IntKind.i64 r], Value.int IntKind.i64 a, Value.tuple #[Value.int IntKind.i64 (a % f), Value.int IntKind.i64 (a / f), Value.int IntKind.i64 0], Value.int IntKind.i64 (a % f), Value.int IntKind.i64 (a / f), Value.int IntKind.i64 0, Value.tuple #[Value.int IntKind.i64 a, Value.int IntKind.i64 0], Value.agg #[Value.int IntKind.i64 f, Value.int IntKind.i64 r], Value.int IntKind.i64 (a % f), Value.int IntKind.i64 (a / f), Value.tuple #[Value.int IntKind.i64 a, Value.int IntKind.i64 0], Value.int IntKind.i64 a, Value.int IntKind.i64 0, Value.tuple #[Value.string (nm (a % f) (a / f)), Value.int IntKind.i64 0], Value.agg #[Value.int IntKind.i64 f, Value.int IntKind.i64 r], Value.int IntKind.i64 a, Value.tuple #[Value.string (nm (a % f) (a / f)), Value.int IntKind.i64 0], Value.string (nm (a % f) (a / f)), Value.int IntKind.i64 0, Value.tuple #[Value.int IntKind.i64 a, Value.int IntKind.i64 0], Value.agg #[Value.int IntKind.i64 f, Value.int IntKind.i64 r], Value.string (nm (a % f) (a / f)), Value.tuple #[Value.int IntKind.i64 a, Value.int IntKind.i64 0], Value.int IntKind.i64 a, Value.int IntKind.i64 0, Value.int IntKind.i64 0, Value.bool false, Value.bool false, Value.int IntKind.i64 0, Value.bool false, Value.bool false, Value.bool false, Value.int IntKind.i64 0, Value.bool false, Value.bool false, Value.bool false, Value.int IntKind.i64 0, Value.bool false, Value.bool false, Value.bool false, Value.int IntKind.i64 a, Value.int IntKind.i64 a, Value.bool false, Value.bool false, Value.bool false, Value.int IntKind.i64 a, Value.int IntKind.i64 a, Value.bool false, Value.bool false, Value.tuple #[Value.int IntKind.i64 (distV f a b), Value.int IntKind.i64 0], Value.agg #[Value.int IntKind.i64 f, Value.int IntKind.i64 r], Value.int IntKind.i64 a, Value.int IntKind.i64 b, Value.tuple #[Value.int IntKind.i64 (distV f a b), Value.int IntKind.i64 0], Value.int IntKind.i64 (distV f a b), Value.int IntKind.i64 0, Value.tuple #[Value.int IntKind.i64 (distV f a b), Value.int IntKind.i64 0], Value.agg #[Value.int IntKind.i64 f, Value.int IntKind.i64 r], Value.int IntKind.i64 b, Value.int IntKind.i64 a, Value.tuple #[Value.int IntKind.i64 (distV f a b), Value.int IntKind.i64 0], Value.int IntKind.i64 (distV f a b), Value.int IntKind.i64 0, Value.tuple #[Value.int IntKind.i64 (distV f b c), Value.int IntKind.i64 0], Value.agg #[Value.int IntKind.i64 f, Value.int IntKind.i64 r], Value.int IntKind.i64 b, Value.int IntKind.i64 c, Value.tuple #[Value.int IntKind.i64 (distV f b c), Value.int IntKind.i64 0], Value.int IntKind.i64 (distV f b c), Value.int IntKind.i64 0, Value.tuple #[Value.int IntKind.i64 (distV f a c), Value.int IntKind.i64 0], Value.agg #[Value.int IntKind.i64 f, Value.int IntKind.i64 r], Value.int IntKind.i64 a, Value.int IntKind.i64 c, Value.tuple #[Value.int IntKind.i64 (distV f a c), Value.int IntKind.i64 0], Value.int IntKind.i64 (distV f a c), Value.int IntKind.i64 0, Value.int IntKind.i64 0, Value.bool false, Value.bool false, Value.int IntKind.i64 0, Value.bool false, Value.bool false, Value.bool false, Value.int IntKind.i64 0, Value.bool false, Value.bool false, Value.bool false, Value.int IntKind.i64 0, Value.bool false, Value.bool false, Value.bool false, Value.int IntKind.i64 (distV f a b), Value.int IntKind.i64 (distV f a b), Value.bool false, Value.bool false, Value.bool false, Value.int IntKind.i64 (distV f a c), Value.int IntKind.i64 (distV f a b), Value.int IntKind.i64 (distV f b c), Value.int IntKind.i64 (distV f a b + distV f b c), Value.bool (decide (distV f a b + distV f b c < distV f a c)), Value.bool (decide (distV f a b + distV f b c < distV f a c)), Value.bool (decide (distV f a b + distV f b c < distV f a c)), Value.int IntKind.i64 (distV f a b), Value.bool (a == b), Value.int IntKind.i64 a, Value.int IntKind.i64 b, Value.bool (a == b), Value.bool false, Value.bool (decide (distV f a b + distV f b c < distV f a c)), Value.tuple #[Value.int IntKind.u64 ↑(accS f r dx dy (sqs m)), Value.int IntKind.i64 0], Value.agg #[Value.int IntKind.i64 f, Value.int IntKind.i64 r], Value.int IntKind.u64 ↑m, Value.int IntKind.i64 dx, Value.int IntKind.i64 dy, Value.tuple #[Value.int IntKind.u64 ↑(accS f r dx dy (sqs m)), Value.int IntKind.i64 0], Value.int IntKind.u64 ↑(accS f r dx dy (sqs m)), Value.int IntKind.i64 0, Value.tuple #[Value.int IntKind.u64 ↑g, Value.int IntKind.i64 0], Value.agg #[Value.int IntKind.i64 f, Value.int IntKind.i64 r], Value.int IntKind.u64 ↑(accS f r dx dy (sqs m)), Value.int IntKind.i64 dx, Value.int IntKind.i64 (-dx), Value.int IntKind.i64 dy, Value.int IntKind.i64 (-dy), Value.tuple #[Value.int IntKind.u64 ↑g, Value.int IntKind.i64 0], Value.int IntKind.u64 ↑g, Value.int IntKind.i64 0, Value.int IntKind.i64 0, Value.bool false, Value.bool false, Value.int IntKind.i64 0, Value.bool false, Value.bool false, Value.bool false, Value.int IntKind.u64 ↑g, Value.int IntKind.u64 ↑m, Value.int IntKind.u64 0, Value.bool false, Value.bool false, Value.int IntKind.u64 ↑m, Value.int IntKind.u64 ↑g, Value.int IntKind.u64 ↑(m &&& 18446744073709551615 - g), Value.func (Fn.func 44) #[] #[Value.pointer (some { block := w'.heap.size, off := 0 })], Value.int IntKind.i64 (x.1 : Int), undef, undef, undef, undef, undef, undef, undef, undef, undef, undef, undef, undef, undef, undef, undef, undef, undef, undef, undef, undef, undef, undef, undef, undef, undef], defers := [] }) ?assign ?body ?done ?stop
  case assign =>
    intro l x W K hK'
    gi_wp2
    exact hK'
  case body =>
    rintro l pre ⟨x, hxm⟩ W hB _
    have hW := Lib.hid (hK.out.next hB)
    have c0 := hW.out.c0
    have c1 := hW.out.c1
    have cx := hW.out.cx
    have cy := hW.out.cy
    have hBH := Lib.hid hB
    have hszW : w'.heap.size ≤ W.heap.size := hB.size
    have hmem := (mem_sqs hmm x).1 hxm
    have hx64 := hmem.2
    have hxb : m.testBit x = true ∧ g.testBit x = false := by
      have h := hmem.1; rw [m_and m g hgl.out x hx64] at h; simpa using h
    have hsq : sqB f r (x : Int) = true := on_sqs hsH.out hon.out _ (bit_LI hxb.1 hx64)
    have hoff : onB f r ((x : Int) % f + dx) ((x : Int) / f + dy) = false := by
      rcases ho : onB f r ((x : Int) % f + dx) ((x : Int) / f + dy) with _ | _
      · rfl
      · have := (hbits.out x).2 ⟨hxb.1, ho⟩; rw [hxb.2] at this; cases this
    obtain ⟨q0, q1, q2, q3, _⟩ := place_bd hsq
    obtain ⟨f0, f1, r0, r1⟩ := szB_out hsH.out
    have hsqH := Lib.hid hsq
    have hoffH := Lib.hid hoff
    clear hB hmem hxb hsq hoff
    gi_wp2_with (first
      | (refine ⟨trivial, ?_⟩; gi_at_call 20; refine (CallsIn.inRound l (callsIn_wide.2 (pplace_yes _ _ _ _ hsqH.out))).mono ?_; rintro e w3 ⟨rfl, hb⟩; replace hBH := Lib.hid (hBH.out.trans (hb.mono hBH.out.size)); replace hW := Lib.hid (hW.out.next hb); replace c0 := hW.out.c0; replace c1 := hW.out.c1; replace cx := hW.out.cx; replace cy := hW.out.cy; have hbP := Lib.hid hb; clear hb)
      | (refine ⟨trivial, ?_⟩; gi_at_call 19; refine (CallsIn.inRound l (callsIn_wide.2 (pat_range _ _ _ _ _ hsH.out hoffH.out))).mono ?_; rintro e w4 ⟨rfl, hb⟩; replace hBH := Lib.hid (hBH.out.trans (hb.mono hBH.out.size)); have hbQ := Lib.hid (hbP.out.trans (hb.mono hbP.out.size)); clear hb))
    exact ⟨keeps_below hbQ.out, hbQ.out.mono hszW, hBH.out⟩
  case done =>
    rintro D ys W hD hys hB hKD
    have hKH := Lib.hid (hK.out.next hB)
    have hDk := Lib.hid hKD
    have cr := hKH.out.cr
    have fr := hKH.out.fr
    have hTd := Lib.hid (hTw.out.below (by omega) hB)
    have hDlt : D < W.heap.size := (Array.getElem?_eq_some_iff.1 hKD).1
    clear hB hKD hys
    gi_wp2_with (first
      | (refine ⟨trivial, ?_⟩; gi_at_call 16; refine (callsIn_wide.2 (known_1 _ hTd.out)).mono ?_; rintro e w3 ⟨rfl, hb⟩; replace hDk := Lib.hid ((hb.block D hDlt).trans hDk.out); replace hKH := Lib.hid (hKH.out.next hb); replace cr := hKH.out.cr; replace fr := hKH.out.fr; clear hb)
      | (refine ⟨trivial, ?_⟩))
    have hD' : w'.heap.size ≤ D := by simp at hD; omega
    have hk : (w3.setCell ⟨w.heap.size + 1 + 1 + 1, 0, none⟩ (.bool true)).heap[D]? = some (.deferred (some [])) := (KeepsOthers.setCell _ _ _).same _ _ hDk.out rfl
    have hres : ((w3.setCell ⟨w.heap.size + 1 + 1 + 1, 0, none⟩ (.bool true)).putObj D (.deferred none)).cell? ⟨w.heap.size + 1 + 1 + 1, 0, none⟩ = some (.bool true) := (cell_putObj (by omega)).trans (World.cell?_setCell_same' _ _ _ (by rw [cr]; rfl))
    refine ⟨by simp, .inl ⟨_, _, rfl, run_takeDeferred hk, ?_⟩⟩
    exact ⟨_, by simp [results, Tryd.results8, go_sem, hres], rfl, (hKH.out.below.setCell (p := ⟨w.heap.size + 1 + 1 + 1, 0, none⟩) (by dsimp only; omega) _).trans (belowK_b (w := w) (Nat.le_refl _) _ D _ _ (by omega) hk rfl rfl)⟩
  case stop =>
    rintro D c pre W _ _ h _
    exact h.elim

theorem law_holds (f r a b c s dx dy : Int) (w : World) (hT : TabAt w) (hw : (Lit.int .u64 s).wf = true) :
    Calls Tryd.prog 8 #[.agg #[.int .i64 f, .int .i64 r], .int .i64 a, .int .i64 b, .int .i64 c, .int .u64 s, .int .i64 dx, .int .i64 dy] w fun e w' => e = .returned (.bool true) ∧ Below w.heap.size w w' := by
  obtain ⟨s0, s1⟩ := wf_u64 hw
  obtain ⟨m, rfl⟩ : ∃ m : Nat, s = (m : Int) := ⟨s.toNat, by omega⟩
  have hm : m < 18446744073709551616 := by omega
  cases ha : sqB f r a
  · exact holds_a f r a b c dx dy m w hT ha
  cases hb : sqB f r b
  · exact holds_b f r a b c dx dy m w hT ha hb
  cases hc : sqB f r c
  · exact holds_c f r a b c dx dy m w hT ha hb hc
  have hs := (sqB_out ha).1
  by_cases hon : ∀ x ∈ LI m 64, x < f * r
  · by_cases h1 : dx < -8
    · exact holds_x1 f r a b c dx dy m w hT ha hb hc hs (Lib.hid hon) h1
    by_cases h2 : 8 < dx
    · exact holds_x2 f r a b c dx dy m w hT ha hb hc hs (Lib.hid hon) (by omega) h2
    by_cases h3 : dy < -8
    · exact holds_y1 f r a b c dx dy m w hT ha hb hc hs (Lib.hid hon) (by omega) (by omega) h3
    by_cases h4 : 8 < dy
    · exact holds_y2 f r a b c dx dy m w hT ha hb hc hs (Lib.hid hon) (by omega) (by omega) (by omega) h4
    exact holds_main f r a b c dx dy m w hT ha hb hc hs hm (Lib.hid hon) (by omega) (by omega) (by omega) (by omega)
  · exact holds_off f r a b c dx dy m w hT ha hb hc hs hon
end Go.Proofs.YtjjchodcoeciaaaDoor
