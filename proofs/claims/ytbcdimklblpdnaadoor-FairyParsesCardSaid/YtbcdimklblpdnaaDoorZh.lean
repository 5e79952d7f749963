/- Layer 27: text of the program. -/
import Derived.Test.YtbcdimklblpdnaaDoorZg
namespace Go.Proofs.YtbcdimklblpdnaaDoor
open Go Go.RowKit
set_option linter.unusedSimpArgs false
set_option linter.unusedVariables false
/-- rows of bytes -/
def bE (b : UInt8) : List Value := [.int .u8 (b.toNat : Int)]
theorem bE_len (x : UInt8) : (bE x).length = 1 := rfl
theorem bE_one (x : UInt8) : ∀ u ∈ bE x, u.oneCell' = true := by
  intro u hu
  simp only [bE, List.mem_cons, List.not_mem_nil, or_false] at hu
  subst hu; rfl
theorem byteRow : RowOf Tryd.prog 98 5 1 1 :=
  RowOf.mk' (z := .int .u8 0) Tryd.underlying98 (by kernel_rfl) (by decide) (by decide) rfl
theorem dig_nat {n : Int} (h0 : 0 ≤ n) (h7 : n ≤ 7) : ((digB n).toNat : Int) = 48 + n := by
  rcases (by omega : n = 0 ∨ n = 1 ∨ n = 2 ∨ n = 3 ∨ n = 4 ∨ n = 5 ∨ n = 6 ∨ n = 7) with rfl | rfl | rfl | rfl | rfl | rfl | rfl | rfl <;> decide
theorem O1.five (w : World) (a b c d e : UInt8) : O1 bE 1 w.heap.size 5 w (w.alloc (.cells #[.int .u8 (a.toNat : Int), .int .u8 (b.toNat : Int), .int .u8 (c.toNat : Int), .int .u8 (d.toNat : Int), .int .u8 (e.toNat : Int)] 5)) (some ⟨w.heap.size, 0, none⟩) 5 [a, b, c, d, e] :=
  ⟨⟨rfl, .inr ⟨w.heap.size, 5, #[.int .u8 (a.toNat : Int), .int .u8 (b.toNat : Int), .int .u8 (c.toNat : Int), .int .u8 (d.toNat : Int), .int .u8 (e.toNat : Int)], rfl, Nat.le_refl _, by rw [heap_alloc_new w _], Nat.le_refl _, by unfold maxLen; decide, rfl, rfl⟩⟩, (Below.refl _ _).alloc (Nat.le_refl _) _, by simp⟩
theorem O1.two (w : World) (a b : UInt8) : O1 bE 1 w.heap.size 5 w (w.alloc (.cells #[.int .u8 (a.toNat : Int), .int .u8 (b.toNat : Int)] 5)) (some ⟨w.heap.size, 0, none⟩) 2 [a, b] :=
  ⟨⟨rfl, .inr ⟨w.heap.size, 2, #[.int .u8 (a.toNat : Int), .int .u8 (b.toNat : Int)], rfl, Nat.le_refl _, by rw [heap_alloc_new w _], Nat.le_refl _, by unfold maxLen; decide, rfl, rfl⟩⟩, (Below.refl _ _).alloc (Nat.le_refl _) _, by simp⟩
theorem conv_row {base c : Nat} {w0 w : World} {A : Option Addr} {l : List UInt8} (h : O1 bE 1 base 5 w0 w A c l) (h0 : 0 < l.length) : (convert 98 9 (.slice A l.length c)).run Tryd.prog w = .ok (.string (bsB l)) w := by
  obtain ⟨g, rfl, _, _⟩ := O1.form h h0
  refine run_convert_bytes_back (P := Tryd.prog) w 98 9 5 ⟨g, 0, none⟩ c l Tryd.underlying98 Tryd.underlying5 Tryd.underlying9 ?_
  intro j hj
  have h2 := World.ownsRow.cellAt h.own j (by omega)
  have hfl : ∀ z : List UInt8, flatR bE z = z.map fun b => Value.int .u8 (b.toNat : Int) := fun z => by
    induction z with
    | nil => rfl
    | cons a z ih => show bE a ++ flatR bE z = _; rw [ih]; rfl
  rw [hfl] at h2
  have h3 : (⟨g, 0, none⟩ : Addr).add j = ⟨g, j, none⟩ := by
    unfold Addr.add
    by_cases e : j = 0
    · subst e; simp
    · simp [e]
  rw [h3, h2]
  simp [hj]
set_option maxRecDepth 100000 in
set_option maxHeartbeats 1000000 in
theorem ptext (x : At) (w : World) (m0 : Int) (hx : okA x) (hm : w.cell? ⟨1, 0, none⟩ = some (.int .i64 m0)) (hg : 1 < w.heap.size) :
    Calls Tryd.prog 35 #[aV x] w fun e w' => e = .returned (.string (bsB (atB x))) ∧ Below w.heap.size w w' := by
  have hX := Lib.hid (KA.new w x)
  have hb1 : Hid (Below w.heap.size w (w.alloc (.cells #[.int .i64 x.kind, .int .i64 x.short, .int .i64 x.long, .int .i64 x.most, .int .i64 x.mode, .int .i64 x.way] 40))) := (Below.refl _ _).alloc (Nat.le_refl _) _
  have hm7 : x.most ≤ 7 := by have := hx.2.2.2.2.2.2; unfold mostA at this; split at this <;> omega
  have hl1 : 1 ≤ x.long := by have := hx.2.2.2.2.1.1; unfold leastA at this; split at this <;> omega
  have hxH := Lib.hid hx
  obtain ⟨⟨k1, k5⟩, ⟨d0, d2⟩, ⟨y0, y2⟩, ⟨s0, s1⟩, ⟨_, l7⟩, ⟨m00, _⟩⟩ := hx
  obtain ⟨mb, hmb⟩ : ∃ mb, ([32, 109, 99] : List UInt8).getD x.mode.toNat 0 = mb := ⟨_, rfl⟩
  obtain ⟨yb, hyb⟩ : ∃ yb, ([32, 102, 98] : List UInt8).getD x.way.toNat 0 = yb := ⟨_, rfl⟩
  have hdS := dig_nat s0 (show x.short ≤ 7 by omega)
  have hdL := dig_nat (show 0 ≤ x.long by omega) l7
  have hdM := dig_nat m00 hm7
  have e1 : ∀ W : World, (Instr.index 9 (.string (ByteArray.mk #[32, 109, 99])) (.int .i64 x.mode)).run Tryd.prog W = .ok (.int .u8 (mb.toNat : Int)) W := fun W => by
    rw [← hmb]
    rcases (by omega : x.mode = 0 ∨ x.mode = 1 ∨ x.mode = 2) with e | e | e <;> rw [e] <;> kernel_rfl
  have e2 : ∀ W : World, (Instr.index 9 (.string (ByteArray.mk #[32, 102, 98])) (.int .i64 x.way)).run Tryd.prog W = .ok (.int .u8 (yb.toNat : Int)) W := fun W => by
    rw [← hyb]
    rcases (by omega : x.way = 0 ∨ x.way = 1 ∨ x.way = 2) with e | e | e <;> rw [e] <;> kernel_rfl
  obtain ⟨K1, hK1⟩ : ∃ K1, x.kind - 1 = K1 := ⟨_, rfl⟩
  have e3 : ∀ W : World, (Instr.index 9 (.string (ByteArray.mk #[76, 82, 72, 74, 88])) (.int .i64 K1)).run Tryd.prog W = .ok (.int .u8 ((letB x.kind).toNat : Int)) W := fun W => by
    rcases (by omega : K1 = 0 ∨ K1 = 1 ∨ K1 = 2 ∨ K1 = 3 ∨ K1 = 4) with e | e | e | e | e <;> (rw [show x.kind = K1 + 1 by omega, e]; kernel_rfl)
  have hKw : IntKind.i64.wrap K1 = K1 := IntWalk.i64_in _ (by omega)
  have hraw : Hid (rawB x = [mb, yb, letB x.kind, digB x.short, digB x.long] ++ (if 0 < x.most then [120, digB x.most] else [])) := by show rawB x = _; unfold rawB; rw [hmb, hyb]
  clear hmb hyb
  have hmH : Hid (∀ W, Below w.heap.size w W → W.cell? ⟨1, 0, none⟩ = some (.int .i64 m0)) := fun W h => (h.cell (p := ⟨1, 0, none⟩) hg).trans hm
  have hrep : Hid (∀ (l : List UInt8) (W : World), rawB x = l → Below w.heap.size w W → Calls Tryd.prog 54 #[.string (bsB l), .string ⟨#[32]⟩, .string ⟨#[]⟩] W fun e w' => e = .returned (.string (bsB (atB x))) ∧ Below W.heap.size W w') := fun l W hl hb => by
    have hll : l.length ≤ 7 := by
      rw [← hl]
      unfold rawB
      rw [List.length_append]
      split <;> simp
    refine (sh_strings_ReplaceAll (bsB l) ⟨#[32]⟩ ⟨#[]⟩ m0 W (by rw [bs_size]; omega) (hmH.out W hb) (by decide) (by rw [bs_size, show (ByteArray.mk #[]).size = 0 from rfl, Nat.mul_zero]; omega)).mono ?_
    rintro e w' ⟨rfl, h2⟩
    refine ⟨?_, h2⟩
    have e1 : (bsB l).data.toList = l := rfl
    have e2 : Lib.replaceAll (bsB l).data.toList (ByteArray.mk #[32]).data.toList (ByteArray.mk #[]).data.toList = atB x := by
      rw [e1]
      show Lib.replaceAll l [32] [] = _
      rw [repl_one, ← hl, raw_filter hxH.out]
    rw [e2]; rfl
  clear hm hg
  go_enter Tryd.func35, Tryd.ntmps35
  go_upto_region 1 with fail
  generalize w.heap.size = B0 at hX ⊢
  have hS : Hid (∀ W, Below (w.alloc (.cells #[.int .i64 x.kind, .int .i64 x.short, .int .i64 x.long, .int .i64 x.most, .int .i64 x.mode, .int .i64 x.way] 40)).heap.size (w.alloc (.cells #[.int .i64 x.kind, .int .i64 x.short, .int .i64 x.long, .int .i64 x.most, .int .i64 x.mode, .int .i64 x.way] 40)) W → W.cell? ⟨B0, 0, none⟩ = some (.int .i64 x.kind) ∧ W.cell? ⟨B0, 1, none⟩ = some (.int .i64 x.short) ∧ W.cell? ⟨B0, 2, none⟩ = some (.int .i64 x.long) ∧ W.cell? ⟨B0, 3, none⟩ = some (.int .i64 x.most) ∧ W.cell? ⟨B0, 4, none⟩ = some (.int .i64 x.mode) ∧ W.cell? ⟨B0, 5, none⟩ = some (.int .i64 x.way)) := fun W h => by
    have hk := hX.out.next h
    exact ⟨hk.c0, hk.c1, hk.c2, hk.c3, hk.c4, hk.c5⟩
  generalize w.alloc (.cells #[.int .i64 x.kind, .int .i64 x.short, .int .i64 x.long, .int .i64 x.most, .int .i64 x.mode, .int .i64 x.way] 40) = u at *
  refine wp_region_held_drew (S := fun W => W.cell? ⟨B0, 0, none⟩ = some (.int .i64 x.kind) ∧ W.cell? ⟨B0, 1, none⟩ = some (.int .i64 x.short) ∧ W.cell? ⟨B0, 2, none⟩ = some (.int .i64 x.long) ∧ W.cell? ⟨B0, 3, none⟩ = some (.int .i64 x.most) ∧ W.cell? ⟨B0, 4, none⟩ = some (.int .i64 x.mode) ∧ W.cell? ⟨B0, 5, none⟩ = some (.int .i64 x.way)) (by kernel_rfl) (hS.out _ ((Below.refl _ _).drew)) (fun hHeld => ?_)
  have h48s : 48 + x.short = ((digB x.short).toNat : Int) := hdS.symm
  have h48l : 48 + x.long = ((digB x.long).toNat : Int) := hdL.symm
  have hdMH := Lib.hid hdM
  clear hdS hdL hdM
  have hbs : ((digB x.short).toNat : Int) ≤ 55 ∧ 48 ≤ ((digB x.short).toNat : Int) := by omega
  have hbl : ((digB x.long).toNat : Int) ≤ 55 ∧ 48 ≤ ((digB x.long).toNat : Int) := by omega
  have g1 : IntKind.i64.wrap ((digB x.short).toNat : Int) = ((digB x.short).toNat : Int) := IntWalk.i64_in _ (by omega)
  have g2 : IntKind.i64.wrap ((digB x.long).toNat : Int) = ((digB x.long).toNat : Int) := IntWalk.i64_in _ (by omega)
  have g3 : IntKind.u8.wrap ((digB x.short).toNat : Int) = ((digB x.short).toNat : Int) := by rw [IntKind.wrap_u8]; omega
  have g4 : IntKind.u8.wrap ((digB x.long).toNat : Int) = ((digB x.long).toNat : Int) := by rw [IntKind.wrap_u8]; omega
  refine wpAnyH_take (i := 0) (v := ?_) rfl (by kernel_rfl) (by kernel_rfl) (by kernel_rfl) (fun _ _ _ h => h) (Or.inl ⟨by rfl, ?_⟩) hHeld ?_
  rotate_left
  · intro W9 hSw; (try dsimp only at hSw); go_simp; (try with_reducible rfl)
  simp only [Act.put, List.getElem_toArray, List.getElem_cons_zero, List.getElem_cons_succ, List.setIfInBounds_toArray, List.set_cons_zero, List.set_cons_succ]
  refine wpAnyH_take (i := 1) (v := ?_) rfl (by kernel_rfl) (by kernel_rfl) (by kernel_rfl) (fun _ _ _ h => h) (Or.inl ⟨by rfl, ?_⟩) hHeld ?_
  rotate_left
  · intro W9 hSw; (try dsimp only at hSw); go_simp; (try with_reducible rfl)
  simp only [Act.put, List.getElem_toArray, List.getElem_cons_zero, List.getElem_cons_succ, List.setIfInBounds_toArray, List.set_cons_zero, List.set_cons_succ]
  refine wpAnyH_take (i := 2) (v := ?_) rfl (by kernel_rfl) (by kernel_rfl) (by kernel_rfl) (fun _ _ _ h => h) (Or.inl ⟨by rfl, ?_⟩) hHeld ?_
  rotate_left
  · intro W9 hSw; (try dsimp only at hSw); go_simp; (try with_reducible rfl)
  simp only [Act.put, List.getElem_toArray, List.getElem_cons_zero, List.getElem_cons_succ, List.setIfInBounds_toArray, List.set_cons_zero, List.set_cons_succ]
  refine wpAnyH_take (i := 3) (v := ?_) rfl (by kernel_rfl) (by kernel_rfl) (by kernel_rfl) (fun _ _ _ h => h) (Or.inl ⟨by rfl, ?_⟩) hHeld ?_
  rotate_left
  · intro W9 hSw; (try dsimp only at hSw); go_simp; (try with_reducible rfl)
  simp only [Act.put, List.getElem_toArray, List.getElem_cons_zero, List.getElem_cons_succ, List.setIfInBounds_toArray, List.set_cons_zero, List.set_cons_succ]
  refine wpAnyH_take (i := 4) (v := ?_) rfl (by kernel_rfl) (by kernel_rfl) (by kernel_rfl) (fun _ _ _ h => h) (Or.inl ⟨by rfl, ?_⟩) hHeld ?_
  rotate_left
  · intro W9 hSw; (try dsimp only at hSw); go_simp; (try with_reducible rfl)
  simp only [Act.put, List.getElem_toArray, List.getElem_cons_zero, List.getElem_cons_succ, List.setIfInBounds_toArray, List.set_cons_zero, List.set_cons_succ]
  refine wpAnyH_take (i := 5) (v := ?_) rfl (by kernel_rfl) (by kernel_rfl) (by kernel_rfl) (fun _ _ _ h => h) (Or.inl ⟨by rfl, ?_⟩) hHeld ?_
  rotate_left
  · intro W9 hSw; (try dsimp only at hSw); go_simp; (try with_reducible rfl)
  simp only [Act.put, List.getElem_toArray, List.getElem_cons_zero, List.getElem_cons_succ, List.setIfInBounds_toArray, List.set_cons_zero, List.set_cons_succ]
  refine wpAnyH_take (i := 6) (v := ?_) rfl (by kernel_rfl) (by kernel_rfl) (by kernel_rfl) (fun _ _ _ h => h) (Or.inl ⟨by rfl, ?_⟩) hHeld ?_
  rotate_left
  · intro W9 hSw; (try dsimp only at hSw); go_simp; (try with_reducible rfl)
  simp only [Act.put, List.getElem_toArray, List.getElem_cons_zero, List.getElem_cons_succ, List.setIfInBounds_toArray, List.set_cons_zero, List.set_cons_succ]
  refine wpAnyH_take (i := 7) (v := ?_) rfl (by kernel_rfl) (by kernel_rfl) (by kernel_rfl) (fun _ _ _ h => h) (Or.inl ⟨by rfl, ?_⟩) hHeld ?_
  rotate_left
  · intro W9 hSw; (try dsimp only at hSw); go_simp; (try with_reducible rfl)
  simp only [Act.put, List.getElem_toArray, List.getElem_cons_zero, List.getElem_cons_succ, List.setIfInBounds_toArray, List.set_cons_zero, List.set_cons_succ]
  refine wpAnyH_take (i := 8) (v := ?_) rfl (by kernel_rfl) (by kernel_rfl) (by kernel_rfl) (fun _ _ _ h => h) (Or.inl ⟨by rfl, ?_⟩) hHeld ?_
  rotate_left
  · intro W9 hSw; (try dsimp only at hSw); go_simp; (try with_reducible rfl)
  simp only [Act.put, List.getElem_toArray, List.getElem_cons_zero, List.getElem_cons_succ, List.setIfInBounds_toArray, List.set_cons_zero, List.set_cons_succ]
  refine wpAnyH_take (i := 9) (v := ?_) rfl (by kernel_rfl) (by kernel_rfl) (by kernel_rfl) (fun _ _ _ h => h) (Or.inl ⟨by rfl, ?_⟩) hHeld ?_
  rotate_left
  · intro W9 hSw; (try dsimp only at hSw); go_simp; (try with_reducible rfl)
  simp only [Act.put, List.getElem_toArray, List.getElem_cons_zero, List.getElem_cons_succ, List.setIfInBounds_toArray, List.set_cons_zero, List.set_cons_succ]
  refine wpAnyH_take (i := 10) (v := ?_) rfl (by kernel_rfl) (by kernel_rfl) (by kernel_rfl) (fun _ _ _ h => h) (Or.inl ⟨by rfl, ?_⟩) hHeld ?_
  rotate_left
  · intro W9 hSw; (try dsimp only at hSw); go_simp; (try with_reducible rfl)
  simp only [Act.put, List.getElem_toArray, List.getElem_cons_zero, List.getElem_cons_succ, List.setIfInBounds_toArray, List.set_cons_zero, List.set_cons_succ]
  refine wpAnyH_take (i := 11) (v := ?_) rfl (by kernel_rfl) (by kernel_rfl) (by kernel_rfl) (fun _ _ _ h => h) (Or.inl ⟨by rfl, ?_⟩) hHeld ?_
  rotate_left
  · intro W9 hSw; (try dsimp only at hSw); go_simp; (try with_reducible rfl)
  simp only [Act.put, List.getElem_toArray, List.getElem_cons_zero, List.getElem_cons_succ, List.setIfInBounds_toArray, List.set_cons_zero, List.set_cons_succ]
  refine wpAnyH_take (i := 12) (v := ?_) rfl (by kernel_rfl) (by kernel_rfl) (by kernel_rfl) (fun _ _ _ h => h) (Or.inl ⟨by rfl, ?_⟩) hHeld ?_
  rotate_left
  · intro W9 hSw; (try dsimp only at hSw); go_simp; (try with_reducible rfl)
  simp only [Act.put, List.getElem_toArray, List.getElem_cons_zero, List.getElem_cons_succ, List.setIfInBounds_toArray, List.set_cons_zero, List.set_cons_succ]
  refine wpAnyH_take (i := 13) (v := ?_) rfl (by kernel_rfl) (by kernel_rfl) (by kernel_rfl) (fun _ _ _ h => h) (Or.inl ⟨by rfl, ?_⟩) hHeld ?_
  rotate_left
  · intro W9 hSw; (try dsimp only at hSw); go_simp; (try with_reducible rfl)
  simp only [Act.put, List.getElem_toArray, List.getElem_cons_zero, List.getElem_cons_succ, List.setIfInBounds_toArray, List.set_cons_zero, List.set_cons_succ]
  refine wpAnyH_take (i := 14) (v := ?_) rfl (by kernel_rfl) (by kernel_rfl) (by kernel_rfl) (fun _ _ _ h => h) (Or.inl ⟨by rfl, ?_⟩) hHeld ?_
  rotate_left
  · intro W9 hSw; (try dsimp only at hSw); go_simp; (try with_reducible rfl)
  simp only [Act.put, List.getElem_toArray, List.getElem_cons_zero, List.getElem_cons_succ, List.setIfInBounds_toArray, List.set_cons_zero, List.set_cons_succ]
  refine wpAnyH_take (i := 15) (v := ?_) rfl (by kernel_rfl) (by kernel_rfl) (by kernel_rfl) (fun _ _ _ h => h) (Or.inl ⟨by rfl, ?_⟩) hHeld ?_
  rotate_left
  · intro W9 hSw; (try dsimp only at hSw); go_simp; (try with_reducible rfl)
  simp only [Act.put, List.getElem_toArray, List.getElem_cons_zero, List.getElem_cons_succ, List.setIfInBounds_toArray, List.set_cons_zero, List.set_cons_succ]
  refine wpAnyH_take (i := 16) (v := ?_) rfl (by kernel_rfl) (by kernel_rfl) (by kernel_rfl) (fun _ _ _ h => h) (Or.inl ⟨by rfl, ?_⟩) hHeld ?_
  rotate_left
  · intro W9 hSw; (try dsimp only at hSw); go_simp; (try with_reducible rfl)
  simp only [Act.put, List.getElem_toArray, List.getElem_cons_zero, List.getElem_cons_succ, List.setIfInBounds_toArray, List.set_cons_zero, List.set_cons_succ]
  refine wpAnyH_take (i := 17) (v := ?_) rfl (by kernel_rfl) (by kernel_rfl) (by kernel_rfl) (fun _ _ _ h => h) (Or.inl ⟨by rfl, ?_⟩) hHeld ?_
  rotate_left
  · intro W9 hSw; (try dsimp only at hSw); go_simp; (try with_reducible rfl)
  simp only [Act.put, List.getElem_toArray, List.getElem_cons_zero, List.getElem_cons_succ, List.setIfInBounds_toArray, List.set_cons_zero, List.set_cons_succ]
  refine wpAnyH_ready (rs := [18]) (by kernel_rfl) (by simp) ?_
  refine AllReadyH.cons rfl (fun K hK => ?_) AllReadyH.nil
  go_simp
  refine hK.out _ _ (hS.out _ (((Below.refl _ _).alloc (Nat.le_refl _) _).drew)) (fun hHeld2 => ?_)
  clear hK K hHeld
  have hHeld := hHeld2
  clear hHeld2
  refine wpAnyH_take (i := 19) (v := ?_) rfl (by kernel_rfl) (by kernel_rfl) (by kernel_rfl) (fun _ _ _ h => h) (Or.inl ⟨by rfl, ?_⟩) hHeld ?_
  rotate_left
  · intro W9 hSw; (try dsimp only at hSw); go_simp; (try with_reducible rfl)
  simp only [Act.put, List.getElem_toArray, List.getElem_cons_zero, List.getElem_cons_succ, List.setIfInBounds_toArray, List.set_cons_zero, List.set_cons_succ]
  refine wpAnyH_done (by kernel_rfl) ?_ _
  have hO := Lib.hid ((O1.five u mb yb (letB x.kind) (digB x.short) (digB x.long)).drew)
  clear hHeld hS e1 e2 e3 h48s h48l hbs hbl g1 g2 g3 g4
  generalize (u.alloc (.cells #[.int .u8 (mb.toNat : Int), .int .u8 (yb.toNat : Int), .int .u8 ((letB x.kind).toNat : Int), .int .u8 ((digB x.short).toNat : Int), .int .u8 ((digB x.long).toNat : Int)] 5)).drew = v at *
  obtain ⟨_, _, _, a3, _, _, _⟩ := hX.out.next hO.out.below
  have hbwv : Hid (Below w.heap.size w v) := hb1.out.trans (hO.out.below.mono hb1.out.size)
  by_cases hp : 0 < x.most
  · have q1 : (0 < x.most) = True := eq_true hp
    have hr2 : Hid (rawB x = [mb, yb, letB x.kind, digB x.short, digB x.long] ++ [120, digB x.most]) := by
      show rawB x = _
      rw [hraw.out, if_pos hp]
    have h48m : 48 + x.most = ((digB x.most).toNat : Int) := hdMH.out.symm
    have hbm : ((digB x.most).toNat : Int) ≤ 55 ∧ 48 ≤ ((digB x.most).toNat : Int) := by have := hdMH.out; omega
    have g5 : IntKind.i64.wrap ((digB x.most).toNat : Int) = ((digB x.most).toNat : Int) := IntWalk.i64_in _ (by omega)
    have g6 : IntKind.u8.wrap ((digB x.most).toNat : Int) = ((digB x.most).toNat : Int) := by rw [IntKind.wrap_u8]; omega
    clear hp hraw
    go_upto_region 4 with (at_builtin; refine wpList_append_recs byteRow bE_len bE_one rfl _ _ rfl u.heap.size (some ⟨u.heap.size, 0, none⟩) 5 [mb, yb, letB x.kind, digB x.short, digB x.long] rfl (hO.out.alloc _).own _ 2 [120, digB x.most] rfl ((O1.two v 120 (digB x.most)).recs bE_len) (by simp) (hO.out.alloc _).size ?_; intro A' c' w3 hown hg3 _; have hO3 := Lib.hid ((hO.out.alloc _).app hown hg3); clear hown hg3)
    have hcv : (convert 98 9 (.slice A' 7 c')).run Tryd.prog w3 = .ok (.string (bsB ([mb, yb, letB x.kind, digB x.short, digB x.long] ++ [120, digB x.most]))) w3 := conv_row hO3.out (by simp)
    have hb3 : Hid (Below w.heap.size w w3) := hb1.out.trans (hO3.out.below.mono hb1.out.size)
    have hrp := Lib.hid (hrep.out _ w3 hr2.out hb3.out)
    go_wp2_with (go_at_call 54; refine hrp.out.mono ?_; rintro e w4 ⟨rfl, hb4⟩; replace hb4 := Lib.hid (hb3.out.trans (hb4.mono hb3.out.size)))
    go_ret
    exact ⟨rfl, hb4.out⟩
  · have q1 : (0 < x.most) = False := eq_false hp
    have hr2 : Hid (rawB x = [mb, yb, letB x.kind, digB x.short, digB x.long]) := by
      show rawB x = _
      rw [hraw.out, if_neg hp, List.append_nil]
    clear hp hraw
    have hcv : (convert 98 9 (.slice (some ⟨u.heap.size, 0, none⟩) 5 5)).run Tryd.prog v = .ok (.string (bsB [mb, yb, letB x.kind, digB x.short, digB x.long])) v := conv_row hO.out (by simp)
    have hrp := Lib.hid (hrep.out _ v hr2.out hbwv.out)
    go_wp2_with (go_at_call 54; refine hrp.out.mono ?_; rintro e w4 ⟨rfl, hb4⟩; replace hb4 := Lib.hid (hbwv.out.trans (hb4.mono hbwv.out.size)))
    go_ret
    exact ⟨rfl, hb4.out⟩
end Go.Proofs.YtbcdimklblpdnaaDoor
