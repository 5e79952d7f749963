/- Layer 1: whether a set is one of a board, by the reference. -/
import Derived.Test.YtjjchodcoeciaaaDoorQx
import Derived.Test.YtjjchodcoeciaaaDoorQs
import Derived.BigRegion
import Derived.BigQuiet
namespace Go.Proofs.YtjjchodcoeciaaaDoor
open Go Go.RowKit
set_option linter.unusedSimpArgs false
set_option linter.unusedVariables false

section
variable {P : Program} {Q : Exit → Act → World → Prop} {md : Region.Mode}
/-- the one operation that may come up now -/
theorem wpAny_one {L : List Oper} {fuel : Nat} {listed : Array Bool} {a : Act} {w : World} (i : Nat) {o : Oper} (hr : Region.ready md L.toArray listed = [i]) (ho : L[i]? = some o) (hg : o.guard = none)
    (h : ∀ K : Act → World → Prop, (∀ a w, wpAny P md L.toArray Q fuel (listed.setIfInBounds i true) a w → K a w) → Oper.wp P o a w K Q) : wpAny P md L.toArray Q (fuel + 1) listed a w :=
  wpAny_ready hr (by simp) (Go.BigFrame.allReady_want (by simpa using ho) (by unfold Region.wanted; rw [hg]) h AllReady.nil)
/-- the rest of a region only reads -/
theorem wpAny_tail {L : List Oper} {fuel : Nat} {listed : Array Bool} {a : Act} {w : World} (k : Nat) (hf : fuel = (L.drop k).length) (hs : Region.noSelect L.toArray = true) (hB : Region.lexFrom .any L.toArray (L.drop k).length k listed = true)
    (h : wpQuiet P L.toArray (fun w' => ∃ n, w' = w.drewN n) (fun a' => ∀ w', (∃ n, w' = w.drewN n) → Q .normal a' w') (L.drop k) a) : wpAny P .any L.toArray Q fuel listed a w := by
  subst hf
  exact wpAny_of_quiet (C := fun w' => ∃ n, w' = w.drewN n) (Q := fun a' => ∀ w', (∃ n, w' = w.drewN n) → Q .normal a' w') (fun _ w' hw' h => h w' hw') _ _ _ _ ⟨0, rfl⟩ (wpAnyQ_lex hs (L.drop k) k listed a (fun j => by simp) hB h)
end
set_option maxRecDepth 100000 in
set_option maxHeartbeats 1000000 in
theorem ron_no (f r : Int) (m : Nat) (w : World) (hs : szB f r = false) : Calls Tryd.prog 31 #[.agg #[.int .i64 f, .int .i64 r], .int .u64 (m : Int)] w fun e w' => e = .returned (.bool false) ∧ Below w.heap.size w w' := by
  have hK' := Lib.hid (BK.first f r w 23)
  have c0 := hK'.out.c0
  have c1 := hK'.out.c1
  go_enter Tryd.func31, Tryd.ntmps31
  go_wp2_with (go_at_call 36; refine (rlist m _).mono ?_; rintro e w' ⟨⟨A0, cp0, rfl, hrec⟩, hb⟩; replace hK' := Lib.hid (hK'.out.next hb); replace c0 := hK'.out.c0; replace c1 := hK'.out.c1; clear hb hrec)
  refine wp_region_any (by kernel_rfl) ?_
  change wpAny _ _ _ _ _ _ _ (World.drew _)
  refine wpAny_one 0 (by kernel_rfl) rfl rfl (fun K hK => ?_)
  go_big_op
  refine hK _ _ ?_
  clear hK K
  refine wpAny_one 1 (by kernel_rfl) rfl rfl (fun K hK => ?_)
  go_big_op
  go_at_call 13
  refine (rsize _ _ _).mono ?_
  rintro e w3 ⟨rfl, hb⟩
  rw [hs]
  replace hK' : Hid (BK f r w w3) := hK'.out.next (undrew hb)
  replace c0 := hK'.out.c0
  replace c1 := hK'.out.c1
  clear hb
  refine hK _ _ ?_
  clear hK K
  refine wpAny_one 2 (by kernel_rfl) rfl rfl (fun K hK => ?_)
  go_big_move
  refine hK _ _ ?_
  clear hK K
  refine wpAny_tail 3 rfl (by kernel_rfl) (by kernel_rfl) ?_
  simp only [List.drop_succ_cons, List.drop_zero]
  repeat (go_big_quiet_step (fail))
  refine wpQuiet_nil ?_
  intro _ hw'
  obtain ⟨nq, hw''⟩ := hw'
  subst hw''
  go_wp2
  go_ret
  exact ⟨rfl, below_drewN hK'.out.below _⟩
set_option maxRecDepth 100000 in
set_option maxHeartbeats 1000000 in
theorem ron_nil (f r : Int) (m : Nat) (w : World) (hs : szB f r = true) (hL : LI m 64 = []) : Calls Tryd.prog 31 #[.agg #[.int .i64 f, .int .i64 r], .int .u64 (m : Int)] w fun e w' => e = .returned (.bool true) ∧ Below w.heap.size w w' := by
  have hK' := Lib.hid (BK.first f r w 23)
  have c0 := hK'.out.c0
  have c1 := hK'.out.c1
  go_enter Tryd.func31, Tryd.ntmps31
  go_wp2_with (go_at_call 36; refine (rlist m _).mono ?_; rw [hL]; rintro e w' ⟨⟨A0, cp0, rfl, hrec⟩, hb⟩; replace hK' := Lib.hid (hK'.out.next hb); replace c0 := hK'.out.c0; replace c1 := hK'.out.c1; clear hb hrec)
  refine wp_region_any (by kernel_rfl) ?_
  change wpAny _ _ _ _ _ _ _ (World.drew _)
  refine wpAny_one 0 (by kernel_rfl) rfl rfl (fun K hK => ?_)
  go_big_op
  refine hK _ _ ?_
  clear hK K
  refine wpAny_one 1 (by kernel_rfl) rfl rfl (fun K hK => ?_)
  go_big_op
  go_at_call 13
  refine (rsize _ _ _).mono ?_
  rintro e w3 ⟨rfl, hb⟩
  rw [hs]
  replace hK' : Hid (BK f r w w3) := hK'.out.next (undrew hb)
  replace c0 := hK'.out.c0
  replace c1 := hK'.out.c1
  clear hb
  refine hK _ _ ?_
  clear hK K
  refine wpAny_one 2 (by kernel_rfl) rfl rfl (fun K hK => ?_)
  go_big_move
  refine hK _ _ ?_
  clear hK K
  refine wpAny_tail 3 rfl (by kernel_rfl) (by kernel_rfl) ?_
  simp only [List.drop_succ_cons, List.drop_zero]
  repeat (go_big_quiet_step (fail))
  refine wpQuiet_nil ?_
  intro _ hw'
  obtain ⟨nq, hw''⟩ := hw'
  subst hw''
  go_wp2
  go_ret
  exact ⟨rfl, below_drewN hK'.out.below _⟩
set_option maxRecDepth 100000 in
set_option maxHeartbeats 1000000 in
theorem ron_last (f r : Int) (x : Int) (L0 : List Int) (m : Nat) (w : World) (hs : szB f r = true) (hL : LI m 64 = L0 ++ [x]) : Calls Tryd.prog 31 #[.agg #[.int .i64 f, .int .i64 r], .int .u64 (m : Int)] w fun e w' => e = .returned (.bool (decide (x < f * r))) ∧ Below w.heap.size w w' := by
  obtain ⟨f0, f1, r0, r1⟩ := szB_out hs
  obtain ⟨m0, m1⟩ := mul_bd f0 f1 r0 r1
  have hl0 := LI_len m 64
  rw [hL] at hl0
  have hln : (L0 ++ [x]).length = L0.length + 1 := by simp
  have hp : L0.length < 64 := by omega
  have hget : (L0 ++ [x])[L0.length]? = some x := by simp
  have hK' := Lib.hid (BK.first f r w 23)
  have c0 := hK'.out.c0
  have c1 := hK'.out.c1
  go_enter Tryd.func31, Tryd.ntmps31
  go_wp2_with (go_at_call 36; refine (rlist m _).mono ?_; rw [hL, hln]; rintro e w' ⟨⟨A0, cp0, rfl, hrec⟩, hb⟩; replace hK' := Lib.hid (hK'.out.next hb); replace c0 := hK'.out.c0; replace c1 := hK'.out.c1; obtain ⟨b, off, rfl, hbl, hcc⟩ := hrec (by omega); have cx : w'.cell? ⟨b, off + L0.length, none⟩ = some (.int .i64 x) := (by have := hcc _ _ hget 0 (.int .i64 x) rfl; simpa using this); clear hb hcc)
  generalize L0.length = p at *
  have hn1 : ((p : Int) + 1 == 0) = false := by rw [beq_eq_false_iff_ne]; omega
  have hw1 : IntKind.i64.wrap ((p : Int) + 1 - 1) = (p : Int) := by rw [IntWalk.i64_in _ (by omega)]; omega
  have hw2 : IntKind.i64.wrap (f * r) = f * r := IntWalk.i64_in _ (by omega)
  refine wp_region_any (by kernel_rfl) ?_
  change wpAny _ _ _ _ _ _ _ (World.drew _)
  refine wpAny_one 0 (by kernel_rfl) rfl rfl (fun K hK => ?_)
  go_big_op
  refine hK _ _ ?_
  clear hK K
  refine wpAny_one 1 (by kernel_rfl) rfl rfl (fun K hK => ?_)
  go_big_op
  go_at_call 13
  refine (rsize _ _ _).mono ?_
  rintro e w3 ⟨rfl, hb⟩
  rw [hs]
  replace hK' : Hid (BK f r w w3) := hK'.out.next (undrew hb)
  replace c0 := hK'.out.c0
  replace c1 := hK'.out.c1
  replace cx := (hb.cell (p := ⟨b, off + p, none⟩) hbl).trans cx
  clear hb
  refine hK _ _ ?_
  clear hK K
  refine wpAny_one 2 (by kernel_rfl) rfl rfl (fun K hK => ?_)
  go_big_move
  refine hK _ _ ?_
  clear hK K
  refine wpAny_tail 3 rfl (by kernel_rfl) (by kernel_rfl) ?_
  simp only [List.drop_succ_cons, List.drop_zero]
  repeat (go_big_quiet_step (fail))
  refine wpQuiet_nil ?_
  intro _ hw'
  obtain ⟨nq, hw''⟩ := hw'
  subst hw''
  go_wp2
  go_ret
  exact ⟨rfl, below_drewN hK'.out.below _⟩
end Go.Proofs.YtjjchodcoeciaaaDoor
