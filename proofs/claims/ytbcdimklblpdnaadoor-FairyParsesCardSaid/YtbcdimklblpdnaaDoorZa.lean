/- Layer 27: texts of atoms, plain; atom of the reference. -/
import Derived.Test.YtbcdimklblpdnaaDoorYl
namespace Go.Proofs.YtbcdimklblpdnaaDoor
open Go Go.RowKit
set_option linter.unusedSimpArgs false
set_option linter.unusedVariables false
def bsB (l : List UInt8) : ByteArray := ⟨l.toArray⟩
theorem bs_app (a b : List UInt8) : bsB a ++ bsB b = bsB (a ++ b) := by
  apply ByteArray.ext
  simp [bsB, ByteArray.data_append]
theorem bs_inj {a b : List UInt8} (h : bsB a = bsB b) : a = b := by
  have := congrArg (fun x : ByteArray => x.data.toList) h
  simpa [bsB] using this
def modB (m : Int) : List UInt8 := if m = 1 then [109] else if m = 2 then [99] else []
def wayB (m : Int) : List UInt8 := if m = 1 then [102] else if m = 2 then [98] else []
def letB (k : Int) : UInt8 := ([76, 82, 72, 74, 88] : List UInt8).getD (k - 1).toNat 0
def digB (n : Int) : UInt8 := ([48, 49, 50, 51, 52, 53, 54, 55] : List UInt8).getD n.toNat 0
theorem bs_size (l : List UInt8) : (bsB l).size = l.length := by simp [bsB, ByteArray.size]
theorem modB_len (m : Int) : (modB m).length ≤ 1 := by unfold modB; (repeat' split) <;> simp
theorem wayB_len (m : Int) : (wayB m).length ≤ 1 := by unfold wayB; (repeat' split) <;> simp
/-- the text of an atom -/
def atB (x : At) : List UInt8 := modB x.mode ++ wayB x.way ++ [letB x.kind] ++ [digB x.short] ++ [digB x.long] ++ (if 0 < x.most then [120] ++ [digB x.most] else [])
theorem let_ext {k : Int} (h1 : 1 ≤ k) (h5 : k ≤ 5) : (ByteArray.mk #[76, 82, 72, 74, 88]).extract (k - 1).toNat k.toNat = bsB [letB k] := by
  obtain ⟨n, rfl⟩ := Int.eq_ofNat_of_zero_le (show 0 ≤ k by omega)
  have hn : n ≤ 5 := by omega
  have h0 : 1 ≤ n := by omega
  match n, hn, h0 with
  | 1, _, _ => rfl
  | 2, _, _ => rfl
  | 3, _, _ => rfl
  | 4, _, _ => rfl
  | 5, _, _ => rfl
theorem dig_ext {k : Int} (h1 : 0 ≤ k) (h7 : k ≤ 7) : (ByteArray.mk #[48, 49, 50, 51, 52, 53, 54, 55]).extract k.toNat (k + 1).toNat = bsB [digB k] := by
  obtain ⟨n, rfl⟩ := Int.eq_ofNat_of_zero_le h1
  have hn : n ≤ 7 := by omega
  match n, hn with
  | 0, _ => rfl
  | 1, _ => rfl
  | 2, _ => rfl
  | 3, _ => rfl
  | 4, _ => rfl
  | 5, _ => rfl
  | 6, _ => rfl
  | 7, _ => rfl
theorem mod_cell (u : World) (T : TypeId) {m : Nat} (h : m < 3) : (u.alloc (.cells #[.string ⟨#[]⟩, .string ⟨#[109]⟩, .string ⟨#[99]⟩] T)).cell? ⟨u.heap.size, m, none⟩ = some (.string (bsB (modB (m : Int)))) := by
  rw [cell_of_row _ _ _ _ _ _ (heap_alloc_new u _)]
  match m, h with
  | 0, _ => rfl
  | 1, _ => rfl
  | 2, _ => rfl
theorem way_cell (u : World) (T : TypeId) {m : Nat} (h : m < 3) : (u.alloc (.cells #[.string ⟨#[]⟩, .string ⟨#[102]⟩, .string ⟨#[98]⟩] T)).cell? ⟨u.heap.size, m, none⟩ = some (.string (bsB (wayB (m : Int)))) := by
  rw [cell_of_row _ _ _ _ _ _ (heap_alloc_new u _)]
  match m, h with
  | 0, _ => rfl
  | 1, _ => rfl
  | 2, _ => rfl
/-- a stronger fact may be kept from here on -/
theorem wpAnyH_mono {P : Program} {md : Region.Mode} {ops : Array Oper} {Q : Exit → Act → World → Prop} {S S' : World → Prop} (h : ∀ w, S' w → S w) : ∀ (fuel : Nat) (listed : Array Bool) (a : Act) (w : World), wpAnyH P md ops Q S' fuel listed a w → wpAnyH P md ops Q S fuel listed a w
  | 0, _, _, _, hh => hh
  | fuel + 1, _, _, _, hh => ⟨hh.1, fun i hi => wpOp_mono (fun a' w' h' => ⟨h _ h'.1, wpAnyH_mono h fuel _ a' w' h'.2⟩) (hh.2 i hi)⟩
set_option maxRecDepth 100000 in
set_option maxHeartbeats 1000000 in
theorem ratom (x : At) (w : World) (hx : okA x) : Calls Tryd.prog 23 #[aV x] w fun e w' => e = .returned (.string (bsB (atB x))) ∧ Below w.heap.size w w' := by
  have hX := Lib.hid (KA.new w x)
  have hb1 : Hid (Below w.heap.size w (w.alloc (.cells #[.int .i64 x.kind, .int .i64 x.short, .int .i64 x.long, .int .i64 x.most, .int .i64 x.mode, .int .i64 x.way] 40))) := (Below.refl _ _).alloc (Nat.le_refl _) _
  have hm0 := hx.2.2.2.2.2
  have hm7 : x.most ≤ 7 := by have := hm0.2; unfold mostA at this; split at this <;> omega
  obtain ⟨⟨k1, k5⟩, ⟨d0, d2⟩, ⟨y0, y2⟩, ⟨s0, s1⟩, ⟨_, l7⟩, _⟩ := hx
  have hle := let_ext k1 k5
  obtain ⟨K1, hK1⟩ : ∃ K1, x.kind - 1 = K1 := ⟨_, rfl⟩
  rw [hK1] at hle
  have hk0 : 0 ≤ x.kind := by omega
  have hK10 : 0 ≤ K1 := by omega
  have hK11 : K1 ≤ x.kind := by omega
  have hK1w : IntKind.i64.wrap K1 = K1 := IntWalk.i64_in _ (by omega)
  have hds := dig_ext s0 (show x.short ≤ 7 by omega)
  have hdl := dig_ext (show 0 ≤ x.long by omega) l7
  have hdm := dig_ext hm0.1 hm7
  obtain ⟨S1, hS1⟩ : ∃ S1, x.short + 1 = S1 := ⟨_, rfl⟩
  obtain ⟨L1, hL1⟩ : ∃ L1, x.long + 1 = L1 := ⟨_, rfl⟩
  obtain ⟨M1, hM1⟩ : ∃ M1, x.most + 1 = M1 := ⟨_, rfl⟩
  rw [hS1] at hds
  rw [hL1] at hdl
  rw [hM1] at hdm
  have s2 : x.short ≤ S1 := by omega
  have s3 : S1 ≤ 8 := by omega
  have l0 : 0 ≤ x.long := by omega
  have l2 : x.long ≤ L1 := by omega
  have l3 : L1 ≤ 8 := by omega
  have m0 : 0 ≤ x.most := hm0.1
  have m2 : x.most ≤ M1 := by omega
  have m3 : M1 ≤ 8 := by omega
  have hV : Hid (atB x = modB x.mode ++ wayB x.way ++ [letB x.kind] ++ [digB x.short] ++ [digB x.long] ++ (if 0 < x.most then [120] ++ [digB x.most] else [])) := rfl
  go_enter Tryd.func23, Tryd.ntmps23
  go_upto_region 2 with fail
  generalize w.heap.size = B0 at hX ⊢
  generalize w.alloc (.cells #[.int .i64 x.kind, .int .i64 x.short, .int .i64 x.long, .int .i64 x.most, .int .i64 x.mode, .int .i64 x.way] 40) = u at *
  obtain ⟨a0, a1, a2, a3, a4, a5, _⟩ := hX.out
  obtain ⟨m, hm⟩ := Int.eq_ofNat_of_zero_le d0
  obtain ⟨y, hy⟩ := Int.eq_ofNat_of_zero_le y0
  have hm3 : m < 3 := by omega
  have hy3 : y < 3 := by omega
  have hmI : (m : Int) < 3 := by omega
  have hyI : (y : Int) < 3 := by omega
  have hm00 : (0 : Int) ≤ (m : Int) := Int.natCast_nonneg _
  have hy00 : (0 : Int) ≤ (y : Int) := Int.natCast_nonneg _
  have hVm : Hid (modB x.mode = modB (m : Int)) := by show _ = _; rw [hm]
  have hVy : Hid (wayB x.way = wayB (y : Int)) := by show _ = _; rw [hy]
  have hS : Hid (∀ W, Below u.heap.size u W → W.cell? ⟨B0, 0, none⟩ = some (.int .i64 x.kind) ∧ W.cell? ⟨B0, 4, none⟩ = some (.int .i64 (m : Int)) ∧ W.cell? ⟨B0, 5, none⟩ = some (.int .i64 (y : Int))) := fun W h => by
    have hk := hX.out.next h
    exact ⟨hk.c0, hm ▸ hk.c4, hy ▸ hk.c5⟩
  clear a0 a1 a2 a3 a4 a5 hm hy d0 d2 y0 y2
  have hml := modB_len (m : Int)
  have hyl := wayB_len (y : Int)
  have happ := bs_app
  have hbsz := bs_size
  have z1 : (9223372036854775807 < (modB (m : Int)).length + (wayB (y : Int)).length) = False := eq_false (by omega)
  have z2 : (9223372036854775807 < (modB (m : Int)).length + (wayB (y : Int)).length + 1) = False := eq_false (by omega)
  go_cut [4] from 5 to 22 (fun s4 wc => s4 = .string (bsB (modB (m : Int) ++ wayB (y : Int) ++ [letB x.kind])) ∧ Hid (Below u.heap.size u wc))
  case first =>
    refine wp_region_held_drew (S := fun W => W.cell? ⟨B0, 0, none⟩ = some (.int .i64 x.kind) ∧ W.cell? ⟨B0, 4, none⟩ = some (.int .i64 (m : Int)) ∧ W.cell? ⟨B0, 5, none⟩ = some (.int .i64 (y : Int))) (by kernel_rfl) (hS.out _ ((Below.refl _ _).drew)) (fun hHeld => ?_)
    refine wpAnyH_take (i := 1) (v := ?_) rfl (by kernel_rfl) (by kernel_rfl) (by kernel_rfl) (fun _ _ _ h => h) (Or.inl ⟨by rfl, ?_⟩) hHeld ?_
    rotate_left
    · intro W9 hSw; (try dsimp only at hSw); go_simp; (try with_reducible rfl)
    simp only [Act.put, List.getElem_toArray, List.getElem_cons_zero, List.getElem_cons_succ, List.setIfInBounds_toArray, List.set_cons_zero, List.set_cons_succ]
    refine wpAnyH_take (i := 2) (v := ?_) rfl (by kernel_rfl) (by kernel_rfl) (by kernel_rfl) (fun _ _ _ h => h) (Or.inl ⟨by rfl, ?_⟩) hHeld ?_
    rotate_left
    · intro W9 hSw; (try dsimp only at hSw); go_simp; (try with_reducible rfl)
    simp only [Act.put, List.getElem_toArray, List.getElem_cons_zero, List.getElem_cons_succ, List.setIfInBounds_toArray, List.set_cons_zero, List.set_cons_succ]
    refine wpAnyH_take (i := 6) (v := ?_) rfl (by kernel_rfl) (by kernel_rfl) (by kernel_rfl) (fun _ _ _ h => h) (Or.inl ⟨by rfl, ?_⟩) hHeld ?_
    rotate_left
    · intro W9 hSw; (try dsimp only at hSw); go_simp; (try with_reducible rfl)
    simp only [Act.put, List.getElem_toArray, List.getElem_cons_zero, List.getElem_cons_succ, List.setIfInBounds_toArray, List.set_cons_zero, List.set_cons_succ]
    refine wpAnyH_take (i := 7) (v := ?_) rfl (by kernel_rfl) (by kernel_rfl) (by kernel_rfl) (fun _ _ _ h => h) (Or.inl ⟨by rfl, ?_⟩) hHeld ?_
    rotate_left
    · intro W9 hSw; (try dsimp only at hSw); go_simp; (try with_reducible rfl)
    simp only [Act.put, List.getElem_toArray, List.getElem_cons_zero, List.getElem_cons_succ, List.setIfInBounds_toArray, List.set_cons_zero, List.set_cons_succ]
    refine wpAnyH_take (i := 11) (v := ?_) rfl (by kernel_rfl) (by kernel_rfl) (by kernel_rfl) (fun _ _ _ h => h) (Or.inl ⟨by rfl, ?_⟩) hHeld ?_
    rotate_left
    · intro W9 hSw; (try dsimp only at hSw); go_simp; (try with_reducible rfl)
    simp only [Act.put, List.getElem_toArray, List.getElem_cons_zero, List.getElem_cons_succ, List.setIfInBounds_toArray, List.set_cons_zero, List.set_cons_succ]
    refine wpAnyH_take (i := 12) (v := ?_) rfl (by kernel_rfl) (by kernel_rfl) (by kernel_rfl) (fun _ _ _ h => h) (Or.inl ⟨by rfl, ?_⟩) hHeld ?_
    rotate_left
    · intro W9 hSw; (try dsimp only at hSw); go_simp; (try with_reducible rfl)
    simp only [Act.put, List.getElem_toArray, List.getElem_cons_zero, List.getElem_cons_succ, List.setIfInBounds_toArray, List.set_cons_zero, List.set_cons_succ]
    refine wpAnyH_take (i := 13) (v := ?_) rfl (by kernel_rfl) (by kernel_rfl) (by kernel_rfl) (fun _ _ _ h => h) (Or.inl ⟨by rfl, ?_⟩) hHeld ?_
    rotate_left
    · intro W9 hSw; (try dsimp only at hSw); go_simp; (try with_reducible rfl)
    simp only [Act.put, List.getElem_toArray, List.getElem_cons_zero, List.getElem_cons_succ, List.setIfInBounds_toArray, List.set_cons_zero, List.set_cons_succ]
    refine wpAnyH_take (i := 14) (v := ?_) rfl (by kernel_rfl) (by kernel_rfl) (by kernel_rfl) (fun _ _ _ h => h) (Or.inl ⟨by rfl, ?_⟩) hHeld ?_
    rotate_left
    · intro W9 hSw; (try dsimp only at hSw); go_simp; (try with_reducible rfl)
    simp only [Act.put, List.getElem_toArray, List.getElem_cons_zero, List.getElem_cons_succ, List.setIfInBounds_toArray, List.set_cons_zero, List.set_cons_succ]
    refine wpAnyH_take (i := 15) (v := ?_) rfl (by kernel_rfl) (by kernel_rfl) (by kernel_rfl) (fun _ _ _ h => h) (Or.inl ⟨by rfl, ?_⟩) hHeld ?_
    rotate_left
    · intro W9 hSw; (try dsimp only at hSw); go_simp; (try with_reducible rfl)
    simp only [Act.put, List.getElem_toArray, List.getElem_cons_zero, List.getElem_cons_succ, List.setIfInBounds_toArray, List.set_cons_zero, List.set_cons_succ]
    refine wpAnyH_take (i := 16) (v := ?_) rfl (by kernel_rfl) (by kernel_rfl) (by kernel_rfl) (fun _ _ _ h => h) (Or.inl ⟨by rfl, ?_⟩) hHeld ?_
    rotate_left
    · intro W9 hSw; (try dsimp only at hSw); go_simp; (try with_reducible rfl)
    simp only [Act.put, List.getElem_toArray, List.getElem_cons_zero, List.getElem_cons_succ, List.setIfInBounds_toArray, List.set_cons_zero, List.set_cons_succ]
    refine wpAnyH_ready (rs := [0, 5]) (by kernel_rfl) (by simp) ?_
    refine AllReadyH.cons rfl (fun K hK => ?_) (AllReadyH.cons rfl (fun K hK => ?_) AllReadyH.nil)
    · go_simp
      have hb2 : Hid (Below u.heap.size u ((u.alloc (.cells #[.string ⟨#[]⟩, .string ⟨#[109]⟩, .string ⟨#[99]⟩] 9)).drew)) := ((Below.refl _ _).alloc (Nat.le_refl _) _).drew
      have hs1 : ((u.alloc (.cells #[.string ⟨#[]⟩, .string ⟨#[109]⟩, .string ⟨#[99]⟩] 9)).drew).heap.size = u.heap.size + 1 := by simp
      have hc1 : ((u.alloc (.cells #[.string ⟨#[]⟩, .string ⟨#[109]⟩, .string ⟨#[99]⟩] 9)).drew).cell? ⟨u.heap.size, m, none⟩ = some (.string (bsB (modB (m : Int)))) := mod_cell u _ hm3
      refine hK.out _ _ (hS.out _ hb2.out) (fun hHeld2 => ?_)
      clear hK K hHeld
      refine wpAnyH_mono (S' := fun W => (W.cell? ⟨B0, 0, none⟩ = some (.int .i64 x.kind) ∧ W.cell? ⟨B0, 4, none⟩ = some (.int .i64 (m : Int)) ∧ W.cell? ⟨B0, 5, none⟩ = some (.int .i64 (y : Int))) ∧ W.cell? ⟨u.heap.size, m, none⟩ = some (.string (bsB (modB (m : Int))))) (fun _ h => h.1) _ _ _ _ ?_
      have hHeld := And.intro hHeld2 hc1
      clear hHeld2 hc1
      have hgen : ∀ W, ((u.alloc (.cells #[.string ⟨#[]⟩, .string ⟨#[109]⟩, .string ⟨#[99]⟩] 9)).drew).alloc (.cells #[.string ⟨#[]⟩, .string ⟨#[102]⟩, .string ⟨#[98]⟩] 9) = W → W = ((u.alloc (.cells #[.string ⟨#[]⟩, .string ⟨#[109]⟩, .string ⟨#[99]⟩] 9)).drew).alloc (.cells #[.string ⟨#[]⟩, .string ⟨#[102]⟩, .string ⟨#[98]⟩] 9) := fun _ h => h.symm
      refine wpAnyH_take (i := 3) (v := ?_) rfl (by kernel_rfl) (by kernel_rfl) (by kernel_rfl) (fun _ _ _ h => h) (Or.inl ⟨by rfl, ?_⟩) hHeld ?_
      rotate_left
      · intro W9 hSw; (try dsimp only at hSw); go_simp; (try with_reducible rfl)
      simp only [Act.put, List.getElem_toArray, List.getElem_cons_zero, List.getElem_cons_succ, List.setIfInBounds_toArray, List.set_cons_zero, List.set_cons_succ]
      refine wpAnyH_take (i := 4) (v := ?_) rfl (by kernel_rfl) (by kernel_rfl) (by kernel_rfl) (fun _ _ _ h => h) (Or.inl ⟨by rfl, ?_⟩) hHeld ?_
      rotate_left
      · intro W9 hSw; (try dsimp only at hSw); go_simp; (try with_reducible rfl)
      simp only [Act.put, List.getElem_toArray, List.getElem_cons_zero, List.getElem_cons_succ, List.setIfInBounds_toArray, List.set_cons_zero, List.set_cons_succ]
      refine wpAnyH_ready (rs := [5]) (by kernel_rfl) (by simp) ?_
      refine AllReadyH.cons rfl (fun K hK => ?_) AllReadyH.nil
      go_simp
      have hb3 : Hid (Below u.heap.size u (((u.alloc (.cells #[.string ⟨#[]⟩, .string ⟨#[109]⟩, .string ⟨#[99]⟩] 9)).alloc (.cells #[.string ⟨#[]⟩, .string ⟨#[102]⟩, .string ⟨#[98]⟩] 9)).drew)) := (((Below.refl _ _).alloc (Nat.le_refl _) _).alloc (by simp) _).drew
      have hs2 : ((u.alloc (.cells #[.string ⟨#[]⟩, .string ⟨#[109]⟩, .string ⟨#[99]⟩] 9))).heap.size = u.heap.size + 1 := by simp
      have hc1 : (((u.alloc (.cells #[.string ⟨#[]⟩, .string ⟨#[109]⟩, .string ⟨#[99]⟩] 9)).alloc (.cells #[.string ⟨#[]⟩, .string ⟨#[102]⟩, .string ⟨#[98]⟩] 9)).drew).cell? ⟨u.heap.size, m, none⟩ = some (.string (bsB (modB (m : Int)))) := by
        have hb4 : Below ((u.alloc (.cells #[.string ⟨#[]⟩, .string ⟨#[109]⟩, .string ⟨#[99]⟩] 9))).heap.size ((u.alloc (.cells #[.string ⟨#[]⟩, .string ⟨#[109]⟩, .string ⟨#[99]⟩] 9))) (((u.alloc (.cells #[.string ⟨#[]⟩, .string ⟨#[109]⟩, .string ⟨#[99]⟩] 9)).alloc (.cells #[.string ⟨#[]⟩, .string ⟨#[102]⟩, .string ⟨#[98]⟩] 9)).drew) := ((Below.refl _ _).alloc (Nat.le_refl _) _).drew
        exact (hb4.cell (p := ⟨u.heap.size, m, none⟩) (by show u.heap.size < _; omega)).trans (mod_cell u _ hm3)
      have hc2 : (((u.alloc (.cells #[.string ⟨#[]⟩, .string ⟨#[109]⟩, .string ⟨#[99]⟩] 9)).alloc (.cells #[.string ⟨#[]⟩, .string ⟨#[102]⟩, .string ⟨#[98]⟩] 9)).drew).cell? ⟨u.heap.size + 1, y, none⟩ = some (.string (bsB (wayB (y : Int)))) := by
        have h1 := way_cell ((u.alloc (.cells #[.string ⟨#[]⟩, .string ⟨#[109]⟩, .string ⟨#[99]⟩] 9))) 9 hy3
        rw [hs2] at h1
        exact h1
      refine hK.out _ _ ⟨hS.out _ hb3.out, hc1⟩ (fun hHeld2 => ?_)
      clear hK K hHeld hgen hs1 hs2 hb2
      generalize ((u.alloc (.cells #[.string ⟨#[]⟩, .string ⟨#[109]⟩, .string ⟨#[99]⟩] 9)).alloc (.cells #[.string ⟨#[]⟩, .string ⟨#[102]⟩, .string ⟨#[98]⟩] 9)).drew = w2 at *
      refine wpAnyH_mono (S' := fun W => ((W.cell? ⟨B0, 0, none⟩ = some (.int .i64 x.kind) ∧ W.cell? ⟨B0, 4, none⟩ = some (.int .i64 (m : Int)) ∧ W.cell? ⟨B0, 5, none⟩ = some (.int .i64 (y : Int))) ∧ W.cell? ⟨u.heap.size, m, none⟩ = some (.string (bsB (modB (m : Int))))) ∧ W.cell? ⟨u.heap.size + 1, y, none⟩ = some (.string (bsB (wayB (y : Int))))) (fun _ h => h.1) _ _ _ _ ?_
      have hHeld := And.intro hHeld2 hc2
      clear hHeld2 hc1 hc2
      refine wpAnyH_take (i := 8) (v := ?_) rfl (by kernel_rfl) (by kernel_rfl) (by kernel_rfl) (fun _ _ _ h => h) (Or.inl ⟨by rfl, ?_⟩) hHeld ?_
      rotate_left
      · intro W9 hSw; (try dsimp only at hSw); go_simp; (try with_reducible rfl)
      simp only [Act.put, List.getElem_toArray, List.getElem_cons_zero, List.getElem_cons_succ, List.setIfInBounds_toArray, List.set_cons_zero, List.set_cons_succ]
      refine wpAnyH_take (i := 9) (v := ?_) rfl (by kernel_rfl) (by kernel_rfl) (by kernel_rfl) (fun _ _ _ h => h) (Or.inl ⟨by rfl, ?_⟩) hHeld ?_
      rotate_left
      · intro W9 hSw; (try dsimp only at hSw); go_simp; (try with_reducible rfl)
      simp only [Act.put, List.getElem_toArray, List.getElem_cons_zero, List.getElem_cons_succ, List.setIfInBounds_toArray, List.set_cons_zero, List.set_cons_succ]
      refine wpAnyH_take (i := 10) (v := ?_) rfl (by kernel_rfl) (by kernel_rfl) (by kernel_rfl) (fun _ _ _ h => h) (Or.inl ⟨by rfl, ?_⟩) hHeld ?_
      rotate_left
      · intro W9 hSw; (try dsimp only at hSw); go_simp; (try with_reducible rfl)
      simp only [Act.put, List.getElem_toArray, List.getElem_cons_zero, List.getElem_cons_succ, List.setIfInBounds_toArray, List.set_cons_zero, List.set_cons_succ]
      refine wpAnyH_take (i := 17) (v := ?_) rfl (by kernel_rfl) (by kernel_rfl) (by kernel_rfl) (fun _ _ _ h => h) (Or.inl ⟨by rfl, ?_⟩) hHeld ?_
      rotate_left
      · intro W9 hSw; (try dsimp only at hSw); go_simp; (try with_reducible rfl)
      simp only [Act.put, List.getElem_toArray, List.getElem_cons_zero, List.getElem_cons_succ, List.setIfInBounds_toArray, List.set_cons_zero, List.set_cons_succ]
      refine wpAnyH_take (i := 18) (v := ?_) rfl (by kernel_rfl) (by kernel_rfl) (by kernel_rfl) (fun _ _ _ h => h) (Or.inl ⟨by rfl, ?_⟩) hHeld ?_
      rotate_left
      · intro W9 hSw; (try dsimp only at hSw); go_simp; (try with_reducible rfl)
      simp only [Act.put, List.getElem_toArray, List.getElem_cons_zero, List.getElem_cons_succ, List.setIfInBounds_toArray, List.set_cons_zero, List.set_cons_succ]
      refine wpAnyH_done (by kernel_rfl) ?_ _
      clear hHeld
      go_wp2_with fail
      go_meet
      exact ⟨by first | rfl | simp [bs_app], hb3⟩
    · go_simp
      have hb2 : Hid (Below u.heap.size u ((u.alloc (.cells #[.string ⟨#[]⟩, .string ⟨#[102]⟩, .string ⟨#[98]⟩] 9)).drew)) := ((Below.refl _ _).alloc (Nat.le_refl _) _).drew
      have hs1 : ((u.alloc (.cells #[.string ⟨#[]⟩, .string ⟨#[102]⟩, .string ⟨#[98]⟩] 9)).drew).heap.size = u.heap.size + 1 := by simp
      have hc1 : ((u.alloc (.cells #[.string ⟨#[]⟩, .string ⟨#[102]⟩, .string ⟨#[98]⟩] 9)).drew).cell? ⟨u.heap.size, y, none⟩ = some (.string (bsB (wayB (y : Int)))) := way_cell u _ hy3
      refine hK.out _ _ (hS.out _ hb2.out) (fun hHeld2 => ?_)
      clear hK K hHeld
      refine wpAnyH_mono (S' := fun W => (W.cell? ⟨B0, 0, none⟩ = some (.int .i64 x.kind) ∧ W.cell? ⟨B0, 4, none⟩ = some (.int .i64 (m : Int)) ∧ W.cell? ⟨B0, 5, none⟩ = some (.int .i64 (y : Int))) ∧ W.cell? ⟨u.heap.size, y, none⟩ = some (.string (bsB (wayB (y : Int))))) (fun _ h => h.1) _ _ _ _ ?_
      have hHeld := And.intro hHeld2 hc1
      clear hHeld2 hc1
      have hgen : ∀ W, ((u.alloc (.cells #[.string ⟨#[]⟩, .string ⟨#[102]⟩, .string ⟨#[98]⟩] 9)).drew).alloc (.cells #[.string ⟨#[]⟩, .string ⟨#[109]⟩, .string ⟨#[99]⟩] 9) = W → W = ((u.alloc (.cells #[.string ⟨#[]⟩, .string ⟨#[102]⟩, .string ⟨#[98]⟩] 9)).drew).alloc (.cells #[.string ⟨#[]⟩, .string ⟨#[109]⟩, .string ⟨#[99]⟩] 9) := fun _ h => h.symm
      refine wpAnyH_take (i := 8) (v := ?_) rfl (by kernel_rfl) (by kernel_rfl) (by kernel_rfl) (fun _ _ _ h => h) (Or.inl ⟨by rfl, ?_⟩) hHeld ?_
      rotate_left
      · intro W9 hSw; (try dsimp only at hSw); go_simp; (try with_reducible rfl)
      simp only [Act.put, List.getElem_toArray, List.getElem_cons_zero, List.getElem_cons_succ, List.setIfInBounds_toArray, List.set_cons_zero, List.set_cons_succ]
      refine wpAnyH_take (i := 9) (v := ?_) rfl (by kernel_rfl) (by kernel_rfl) (by kernel_rfl) (fun _ _ _ h => h) (Or.inl ⟨by rfl, ?_⟩) hHeld ?_
      rotate_left
      · intro W9 hSw; (try dsimp only at hSw); go_simp; (try with_reducible rfl)
      simp only [Act.put, List.getElem_toArray, List.getElem_cons_zero, List.getElem_cons_succ, List.setIfInBounds_toArray, List.set_cons_zero, List.set_cons_succ]
      refine wpAnyH_ready (rs := [0]) (by kernel_rfl) (by simp) ?_
      refine AllReadyH.cons rfl (fun K hK => ?_) AllReadyH.nil
      go_simp
      have hb3 : Hid (Below u.heap.size u (((u.alloc (.cells #[.string ⟨#[]⟩, .string ⟨#[102]⟩, .string ⟨#[98]⟩] 9)).alloc (.cells #[.string ⟨#[]⟩, .string ⟨#[109]⟩, .string ⟨#[99]⟩] 9)).drew)) := (((Below.refl _ _).alloc (Nat.le_refl _) _).alloc (by simp) _).drew
      have hs2 : ((u.alloc (.cells #[.string ⟨#[]⟩, .string ⟨#[102]⟩, .string ⟨#[98]⟩] 9))).heap.size = u.heap.size + 1 := by simp
      have hc1 : (((u.alloc (.cells #[.string ⟨#[]⟩, .string ⟨#[102]⟩, .string ⟨#[98]⟩] 9)).alloc (.cells #[.string ⟨#[]⟩, .string ⟨#[109]⟩, .string ⟨#[99]⟩] 9)).drew).cell? ⟨u.heap.size, y, none⟩ = some (.string (bsB (wayB (y : Int)))) := by
        have hb4 : Below ((u.alloc (.cells #[.string ⟨#[]⟩, .string ⟨#[102]⟩, .string ⟨#[98]⟩] 9))).heap.size ((u.alloc (.cells #[.string ⟨#[]⟩, .string ⟨#[102]⟩, .string ⟨#[98]⟩] 9))) (((u.alloc (.cells #[.string ⟨#[]⟩, .string ⟨#[102]⟩, .string ⟨#[98]⟩] 9)).alloc (.cells #[.string ⟨#[]⟩, .string ⟨#[109]⟩, .string ⟨#[99]⟩] 9)).drew) := ((Below.refl _ _).alloc (Nat.le_refl _) _).drew
        exact (hb4.cell (p := ⟨u.heap.size, y, none⟩) (by show u.heap.size < _; omega)).trans (way_cell u _ hy3)
      have hc2 : (((u.alloc (.cells #[.string ⟨#[]⟩, .string ⟨#[102]⟩, .string ⟨#[98]⟩] 9)).alloc (.cells #[.string ⟨#[]⟩, .string ⟨#[109]⟩, .string ⟨#[99]⟩] 9)).drew).cell? ⟨u.heap.size + 1, m, none⟩ = some (.string (bsB (modB (m : Int)))) := by
        have h1 := mod_cell ((u.alloc (.cells #[.string ⟨#[]⟩, .string ⟨#[102]⟩, .string ⟨#[98]⟩] 9))) 9 hm3
        rw [hs2] at h1
        exact h1
      refine hK.out _ _ ⟨hS.out _ hb3.out, hc1⟩ (fun hHeld2 => ?_)
      clear hK K hHeld hgen hs1 hs2 hb2
      generalize ((u.alloc (.cells #[.string ⟨#[]⟩, .string ⟨#[102]⟩, .string ⟨#[98]⟩] 9)).alloc (.cells #[.string ⟨#[]⟩, .string ⟨#[109]⟩, .string ⟨#[99]⟩] 9)).drew = w2 at *
      refine wpAnyH_mono (S' := fun W => ((W.cell? ⟨B0, 0, none⟩ = some (.int .i64 x.kind) ∧ W.cell? ⟨B0, 4, none⟩ = some (.int .i64 (m : Int)) ∧ W.cell? ⟨B0, 5, none⟩ = some (.int .i64 (y : Int))) ∧ W.cell? ⟨u.heap.size, y, none⟩ = some (.string (bsB (wayB (y : Int))))) ∧ W.cell? ⟨u.heap.size + 1, m, none⟩ = some (.string (bsB (modB (m : Int))))) (fun _ h => h.1) _ _ _ _ ?_
      have hHeld := And.intro hHeld2 hc2
      clear hHeld2 hc1 hc2
      refine wpAnyH_take (i := 3) (v := ?_) rfl (by kernel_rfl) (by kernel_rfl) (by kernel_rfl) (fun _ _ _ h => h) (Or.inl ⟨by rfl, ?_⟩) hHeld ?_
      rotate_left
      · intro W9 hSw; (try dsimp only at hSw); go_simp; (try with_reducible rfl)
      simp only [Act.put, List.getElem_toArray, List.getElem_cons_zero, List.getElem_cons_succ, List.setIfInBounds_toArray, List.set_cons_zero, List.set_cons_succ]
      refine wpAnyH_take (i := 4) (v := ?_) rfl (by kernel_rfl) (by kernel_rfl) (by kernel_rfl) (fun _ _ _ h => h) (Or.inl ⟨by rfl, ?_⟩) hHeld ?_
      rotate_left
      · intro W9 hSw; (try dsimp only at hSw); go_simp; (try with_reducible rfl)
      simp only [Act.put, List.getElem_toArray, List.getElem_cons_zero, List.getElem_cons_succ, List.setIfInBounds_toArray, List.set_cons_zero, List.set_cons_succ]
      refine wpAnyH_take (i := 10) (v := ?_) rfl (by kernel_rfl) (by kernel_rfl) (by kernel_rfl) (fun _ _ _ h => h) (Or.inl ⟨by rfl, ?_⟩) hHeld ?_
      rotate_left
      · intro W9 hSw; (try dsimp only at hSw); go_simp; (try with_reducible rfl)
      simp only [Act.put, List.getElem_toArray, List.getElem_cons_zero, List.getElem_cons_succ, List.setIfInBounds_toArray, List.set_cons_zero, List.set_cons_succ]
      refine wpAnyH_take (i := 17) (v := ?_) rfl (by kernel_rfl) (by kernel_rfl) (by kernel_rfl) (fun _ _ _ h => h) (Or.inl ⟨by rfl, ?_⟩) hHeld ?_
      rotate_left
      · intro W9 hSw; (try dsimp only at hSw); go_simp; (try with_reducible rfl)
      simp only [Act.put, List.getElem_toArray, List.getElem_cons_zero, List.getElem_cons_succ, List.setIfInBounds_toArray, List.set_cons_zero, List.set_cons_succ]
      refine wpAnyH_take (i := 18) (v := ?_) rfl (by kernel_rfl) (by kernel_rfl) (by kernel_rfl) (fun _ _ _ h => h) (Or.inl ⟨by rfl, ?_⟩) hHeld ?_
      rotate_left
      · intro W9 hSw; (try dsimp only at hSw); go_simp; (try with_reducible rfl)
      simp only [Act.put, List.getElem_toArray, List.getElem_cons_zero, List.getElem_cons_succ, List.setIfInBounds_toArray, List.set_cons_zero, List.set_cons_succ]
      refine wpAnyH_done (by kernel_rfl) ?_ _
      clear hHeld
      go_wp2_with fail
      go_meet
      exact ⟨by first | rfl | simp [bs_app], hb3⟩
  case rest =>
    obtain ⟨rfl, hbc⟩ := hcut
    obtain ⟨T, hT⟩ : ∃ T, modB (m : Int) ++ wayB (y : Int) ++ [letB x.kind] = T := ⟨_, rfl⟩
    have hT3 : T.length ≤ 3 := by rw [← hT]; simp; omega
    have hV2 : Hid (atB x = T ++ [digB x.short] ++ [digB x.long] ++ (if 0 < x.most then [120] ++ [digB x.most] else [])) := by
      show atB x = _
      rw [hV.out, hVm.out, hVy.out, hT]
    rw [hT]
    have hkb := hX.out.next hbc.out
    obtain ⟨a0, a1, a2, a3, a4, a5, _⟩ := hkb
    have hfinb : Hid (∀ n, Below w.heap.size w (wc.drewN n)) := fun n => below_drewN (hb1.out.trans (hbc.out.mono hb1.out.size)) n
    clear z1 z2 hml hyl hT hS hV hVm hVy hle
    have z1 : (9223372036854775807 < T.length + 1) = False := eq_false (by omega)
    have z2 : (9223372036854775807 < T.length + 1 + 1) = False := eq_false (by omega)
    have z3 : (9223372036854775807 < T.length + 1 + 1 + 1) = False := eq_false (by omega)
    go_wp2_with fail
    go_quiet (fail)
    have b3 : (wc.drewN nq).cell? ⟨B0, 3, none⟩ = some (.int .i64 x.most) := a3
    have hfb := Lib.hid (hfinb.out nq)
    clear a0 a1 a2 a3 a4 a5 hfinb hds hdl
    generalize wc.drewN nq = wq at *
    by_cases hp : 0 < x.most
    · have q1 : (0 < x.most) = True := eq_true hp
      have hV3 : Hid (atB x = T ++ [digB x.short, digB x.long, 120, digB x.most]) := by
        show atB x = _
        rw [hV2.out, if_pos hp]; simp
      have h120 : (ByteArray.mk #[120]) = bsB [120] := rfl
      clear hp hV2
      go_wp2_with fail
      go_ret
      exact ⟨by rw [hV3.out]; rfl, hfb.out⟩
    · have q1 : (0 < x.most) = False := eq_false hp
      have hV3 : Hid (atB x = T ++ [digB x.short, digB x.long]) := by
        show atB x = _
        rw [hV2.out, if_neg hp]; simp
      clear hp hV2
      go_wp2_with fail
      go_ret
      exact ⟨by rw [hV3.out]; rfl, hfb.out⟩
end Go.Proofs.YtbcdimklblpdnaaDoor
