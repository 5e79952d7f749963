/- Layer 27: squares in a direction, plain; hurdle of the reference. -/
import Derived.Test.YtbcdimklblpdnaaGreatDoorYg
namespace Go.Proofs.YtbcdimklblpdnaaGreatDoor
open Go Go.RowKit
set_option linter.unusedSimpArgs false
set_option linter.unusedVariables false
def pEnc (x : Int) : List Value := [.int .i8 x]
theorem pEnc_len (x : Int) : (pEnc x).length = 1 := rfl
theorem recP {w : World} {B : Nat} {A : Option Addr} {l : List Int} (h : RecAt pEnc 1 w B A l) {k : Nat} {x : Int} (hx : l[k]? = some x) : ∃ b off, A = some ⟨b, off, none⟩ ∧ b < B ∧ w.cell? ⟨b, off + k, none⟩ = some (.int .i8 x) := by
  obtain ⟨b, off, e, hb, hc⟩ := h (by have := (List.getElem?_eq_some_iff.1 hx).1; omega)
  refine ⟨b, off, e, hb, ?_⟩
  have := hc k x hx 0 _ rfl
  simpa using this
/-- a board's numbers and a step's -/
structure Dir (f r a : Nat) (sf sr : Int) (ps : List Int) : Prop where
  f0 : 3 ≤ f
  f1 : f ≤ 8
  r0 : 3 ≤ r
  r1 : r ≤ 8
  len : ps.length = f * r
  a0 : a < f * r
  s0 : -7 ≤ sf ∧ sf ≤ 7
  s1 : -7 ≤ sr ∧ sr ≤ 7
  ne : sf ≠ 0 ∨ sr ≠ 0
/-- the square that is k steps away -/
def sqK (f r a : Nat) (sf sr : Int) (k : Nat) : Int := atV f r a ((k : Int) * sf) ((k : Int) * sr)
theorem mul_bd7 {k : Nat} {s : Int} (hk : k ≤ 20) (h : -7 ≤ s ∧ s ≤ 7) : -1000 ≤ (k : Int) * s ∧ (k : Int) * s ≤ 1000 := by
  have h1 : (k : Int) * s ≤ (k : Int) * 7 := Int.mul_le_mul_of_nonneg_left h.2 (by omega)
  have h2 : (k : Int) * (-7) ≤ (k : Int) * s := Int.mul_le_mul_of_nonneg_left h.1 (by omega)
  omega
theorem inB_iff {n a b : Int} : inB n a b = true ↔ a ≤ n ∧ n ≤ b := by
  unfold inB
  rw [Bool.and_eq_true, decide_eq_true_eq, decide_eq_true_eq]
section
variable {f r a : Nat} {sf sr : Int} {ps : List Int}
theorem Dir.place (h : Dir f r a sf sr ps) : a % f < f ∧ a / f < r := by
  have h0 := h.f0
  refine ⟨Nat.mod_lt _ (by omega), ?_⟩
  have := h.a0
  rw [Nat.mul_comm] at this
  exact (Nat.div_lt_iff_lt_mul (by omega)).2 this
theorem sqK_on {k : Nat} (h : 0 ≤ sqK f r a sf sr k) : (0 ≤ ((a % f : Nat) : Int) + (k : Int) * sf ∧ ((a % f : Nat) : Int) + (k : Int) * sf ≤ (f : Int) - 1) ∧ (0 ≤ ((a / f : Nat) : Int) + (k : Int) * sr ∧ ((a / f : Nat) : Int) + (k : Int) * sr ≤ (r : Int) - 1) := by
  unfold sqK atV at h
  by_cases hh : (inB (((a % f : Nat) : Int) + (k : Int) * sf) 0 ((f : Int) - 1) && inB (((a / f : Nat) : Int) + (k : Int) * sr) 0 ((r : Int) - 1)) = true
  · rw [Bool.and_eq_true, inB_iff, inB_iff] at hh
    exact hh
  · rw [if_neg hh] at h
    omega
theorem far_one {k : Nat} {s : Int} (hk : 8 ≤ k) (h : s ≠ 0) : 8 ≤ (k : Int) * s ∨ (k : Int) * s ≤ -8 := by
  rcases Int.lt_or_gt_of_ne h with h1 | h1
  · have h2 : (k : Int) * s ≤ (k : Int) * (-1) := Int.mul_le_mul_of_nonneg_left (by omega) (by omega)
    omega
  · have h2 : (k : Int) * 1 ≤ (k : Int) * s := Int.mul_le_mul_of_nonneg_left (by omega) (by omega)
    omega
theorem Dir.far (h : Dir f r a sf sr ps) {k : Nat} (hk : 8 ≤ k) : ¬ 0 ≤ sqK f r a sf sr k := fun hh => by
  obtain ⟨h1, h2⟩ := sqK_on hh
  obtain ⟨p1, p2⟩ := h.place
  have := h.f1
  have := h.r1
  generalize a % f = X at *
  generalize a / f = Y at *
  rcases h.ne with e | e
  · rcases far_one hk e with h3 | h3 <;> omega
  · rcases far_one hk e with h3 | h3 <;> omega
theorem Dir.lt (h : Dir f r a sf sr ps) {k : Nat} (hh : 0 ≤ sqK f r a sf sr k) : sqK f r a sf sr k < ((f * r : Nat) : Int) := by
  obtain ⟨h1, h2⟩ := sqK_on hh
  have e : sqK f r a sf sr k = (((a % f : Nat) : Int) + (k : Int) * sf) + (((a / f : Nat) : Int) + (k : Int) * sr) * f := by
    unfold sqK atV
    rw [if_pos (by rw [Bool.and_eq_true, inB_iff, inB_iff]; exact ⟨h1, h2⟩)]
  rw [e]
  have h3 : (((a / f : Nat) : Int) + (k : Int) * sr) * f ≤ ((r : Int) - 1) * f := Int.mul_le_mul_of_nonneg_right h2.2 (by omega)
  have h4 : ((r : Int) - 1) * f = ((f * r : Nat) : Int) - f := by
    rw [Int.sub_mul, Int.one_mul, Int.natCast_mul, Int.mul_comm]
  omega
/-- how many steps away the first occupied square is -/
def hurF (f r a : Nat) (sf sr : Int) (ps : List Int) : Nat → Nat → Nat
  | 0, _ => 0
  | n + 1, k => if 0 ≤ sqK f r a sf sr k then (if ps.getD (sqK f r a sf sr k).toNat 0 = 0 then hurF f r a sf sr ps n (k + 1) else k) else 0
def hurV (f r a : Nat) (sf sr : Int) (ps : List Int) : Nat := hurF f r a sf sr ps 8 1
theorem Dir.rat (h : Dir f r a sf sr ps) {k : Nat} (hk : k ≤ 20) (P : Option Addr) (n c : Nat) (w : World) : Calls Tryz.prog 75 #[.agg #[.int .i64 (f : Int), .int .i64 (r : Int), .slice P n c], .int .i64 (a : Int), .agg #[.int .i64 sf, .int .i64 sr], .int .i64 (k : Int)] w fun e w' => e = .returned (.int .i64 (sqK f r a sf sr k)) ∧ Below w.heap.size w w' := by
  have h0 := h.f0
  have h1 := h.f1
  have h2 := h.r1
  have h3 := h.a0
  have h4 : f * r ≤ 8 * 8 := Nat.mul_le_mul h1 h2
  exact Go.Proofs.YtbcdimklblpdnaaGreatDoor.rat f r a P n c sf sr k w (by omega) (by omega) (by omega) (mul_bd7 hk h.s0) (mul_bd7 hk h.s1)
end
set_option maxRecDepth 100000 in
set_option maxHeartbeats 4000000 in
theorem rhurdle (f r a : Nat) (sf sr : Int) (ps : List Int) (P : Option Addr) (c : Nat) (w : World) (h : Dir f r a sf sr ps) (hP : RecAt pEnc 1 w w.heap.size P ps) :
    Calls Tryz.prog 74 #[.agg #[.int .i64 (f : Int), .int .i64 (r : Int), .slice P ps.length c], .int .i64 (a : Int), .agg #[.int .i64 sf, .int .i64 sr]] w fun e w' => e = .returned (.int .i64 (hurV f r a sf sr ps : Int)) ∧ Below w.heap.size w w' := by
  have hX := Lib.hid (KBd.new w f r P ps.length c)
  have hbA : Hid (Below w.heap.size w (w.alloc (.cells #[.int .i64 (f : Int), .int .i64 (r : Int), .slice P ps.length c] 40))) := (Below.refl _ _).alloc (Nat.le_refl _) _
  have e1 : (w.alloc (.cells #[.int .i64 (f : Int), .int .i64 (r : Int), .slice P ps.length c] 40)).heap.size = w.heap.size + 1 := by simp
  have hY := Lib.hid (KS.new (w.alloc (.cells #[.int .i64 (f : Int), .int .i64 (r : Int), .slice P ps.length c] 40)) sf sr)
  rw [e1] at hY
  have hbB : Below (w.alloc (.cells #[.int .i64 (f : Int), .int .i64 (r : Int), .slice P ps.length c] 40)).heap.size (w.alloc (.cells #[.int .i64 (f : Int), .int .i64 (r : Int), .slice P ps.length c] 40)) ((w.alloc (.cells #[.int .i64 (f : Int), .int .i64 (r : Int), .slice P ps.length c] 40)).alloc (.cells #[.int .i64 sf, .int .i64 sr] 74)) := (Below.refl _ _).alloc (Nat.le_refl _) _
  replace hX := Lib.hid (hX.out.next hbB)
  have hb1 := Lib.hid (hbA.out.trans (hbB.mono hbA.out.size))
  have hPH := Lib.hid (recs_next hP hb1.out)
  have hD := Lib.hid h
  have hl64 : ps.length ≤ 64 := by rw [h.len]; exact Nat.mul_le_mul h.f1 h.r1
  have hl0 : 0 < ps.length := by rw [h.len]; have h1 : 3 * 3 ≤ f * r := Nat.mul_le_mul h.f0 h.r0; omega
  have hat : Hid (∀ (k : Nat) (W : World), k ≤ 20 → Calls Tryz.prog 75 #[.agg #[.int .i64 (f : Int), .int .i64 (r : Int), .slice P ps.length c], .int .i64 (a : Int), .agg #[.int .i64 sf, .int .i64 sr], .int .i64 (k : Int)] W fun e w' => e = .returned (.int .i64 (sqK f r a sf sr k)) ∧ Below W.heap.size W w') := fun k W hk => h.rat hk P ps.length c W
  clear hbA hbB e1 hP h
  go_enter Tryz.func74, Tryz.ntmps74
  go_upto_region 1 with fail
  generalize w.heap.size = B0 at hX hY ⊢
  generalize (w.alloc (.cells #[.int .i64 (f : Int), .int .i64 (r : Int), .slice P ps.length c] 40)).alloc (.cells #[.int .i64 sf, .int .i64 sr] 74) = u at *
  go_wp2_with fail
  go_loopw [7] (fun i wr => ∃ (k n : Nat), 1 ≤ k ∧ k + n = 9 ∧ i = .int .i64 (k : Int) ∧ Hid (hurF f r a sf sr ps n k = hurV f r a sf sr ps) ∧ Hid (Below u.heap.size u wr)) (fun i _ => 20 - (intOf i).toNat)
  case atStart => exact ⟨1, 8, by omega, by omega, rfl, rfl, Below.refl _ _⟩
  case round =>
    obtain ⟨k, n, hk1, hkn, rfl, hh, hB⟩ := hrel
    have hk0 : (0 : Int) ≤ (k : Int) := Int.natCast_nonneg _
    obtain ⟨x0, x1, x2, _⟩ := hX.out.next hB.out
    obtain ⟨y0, y1, _⟩ := hY.out.next hB.out
    have hatk := Lib.hid (fun W => hat.out k W (by omega))
    obtain ⟨Z, hZ⟩ : ∃ Z, sqK f r a sf sr k = Z := ⟨_, rfl⟩
    rw [hZ] at hatk
    have hZH := Lib.hid hZ
    by_cases hz : 0 ≤ Z
    rotate_left
    · have q1 : (0 ≤ Z) = False := eq_false hz
      have hV : Hid (hurV f r a sf sr ps = 0) := by
        rw [← hh.out]
        show hurF f r a sf sr ps n k = 0
        cases n with
        | zero => rfl
        | succ n => exact if_neg (by rw [hZ]; exact hz)
      clear hz hZ
      go_wp2_with fail
      go_at_call 75
      refine (hatk.out _).mono ?_
      rintro e w2 ⟨rfl, hb2⟩
      go_wp2_with fail
      go_ret
      exact ⟨ri (by rw [hV.out]; rfl), hb1.out.trans ((hB.out.trans (hb2.mono hB.out.size)).mono hb1.out.size)⟩
    have hk8 : k < 8 := by
      apply Nat.lt_of_not_le
      intro h8
      exact hD.out.far h8 (by rw [hZ]; exact hz)
    have hZl := hD.out.lt (k := k) (by rw [hZ]; exact hz)
    rw [hZ, ← hD.out.len] at hZl
    obtain ⟨z, rfl⟩ := Int.eq_ofNat_of_zero_le hz
    have hzl : z < ps.length := by omega
    obtain ⟨x, hx⟩ : ∃ x, ps[z]? = some x := ⟨_, List.getElem?_eq_getElem hzl⟩
    have hgd : Hid (ps.getD (sqK f r a sf sr k).toNat 0 = x) := by rw [hZ, Int.toNat_natCast, List.getD_eq_getElem?_getD, hx]; exact rfl
    obtain ⟨bk, off, rfl, hbk, hc⟩ := recP hPH.out hx
    have hcH : Hid (∀ W, Below u.heap.size u W → W.cell? ⟨bk, off + z, none⟩ = some (.int .i8 x)) := fun W h => (h.cell (p := ⟨bk, off + z, none⟩) hbk).trans hc
    obtain ⟨m, rfl⟩ : ∃ m, n = m + 1 := ⟨n - 1, by omega⟩
    have hst : Hid (hurF f r a sf sr ps (m + 1) k = if x = 0 then hurF f r a sf sr ps m (k + 1) else k) := by
      show (if 0 ≤ sqK f r a sf sr k then (if ps.getD (sqK f r a sf sr k).toNat 0 = 0 then hurF f r a sf sr ps m (k + 1) else k) else 0) = _
      rw [if_pos (by rw [hZ]; exact hz), hgd.out]
    have q1 : ((0 : Int) ≤ (z : Int)) = True := eq_true hz
    have hzI : (z : Int) < (ps.length : Int) := hZl
    have hz0 : (0 : Int) ≤ (z : Int) := hz
    clear hz hZ hx hc hgd
    go_wp2_with fail
    go_at_call 75
    refine (hatk.out _).mono ?_
    rintro e w2 ⟨rfl, hb2⟩
    have hB2 := Lib.hid (hB.out.trans (hb2.mono hB.out.size))
    clear hb2 x0 x1 x2 y0 y1 hB
    have hS : Hid (∀ W, Below w2.heap.size w2 W → W.cell? ⟨B0, 0, none⟩ = some (.int .i64 (f : Int)) ∧ W.cell? ⟨B0, 1, none⟩ = some (.int .i64 (r : Int)) ∧ W.cell? ⟨B0, 2, none⟩ = some (.slice (some ⟨bk, off, none⟩) ps.length c) ∧ W.cell? ⟨B0 + 1, 0, none⟩ = some (.int .i64 sf) ∧ W.cell? ⟨B0 + 1, 1, none⟩ = some (.int .i64 sr) ∧ W.cell? ⟨bk, off + z, none⟩ = some (.int .i8 x)) := fun W h => by
      have hw := hB2.out.trans (h.mono hB2.out.size)
      exact ⟨(hX.out.next hw).c0, (hX.out.next hw).c1, (hX.out.next hw).c2, (hY.out.next hw).c0, (hY.out.next hw).c1, hcH.out W hw⟩
    go_upto_region 4 with fail
    refine wp_region_held_drew (S := fun W => W.cell? ⟨B0, 0, none⟩ = some (.int .i64 (f : Int)) ∧ W.cell? ⟨B0, 1, none⟩ = some (.int .i64 (r : Int)) ∧ W.cell? ⟨B0, 2, none⟩ = some (.slice (some ⟨bk, off, none⟩) ps.length c) ∧ W.cell? ⟨B0 + 1, 0, none⟩ = some (.int .i64 sf) ∧ W.cell? ⟨B0 + 1, 1, none⟩ = some (.int .i64 sr) ∧ W.cell? ⟨bk, off + z, none⟩ = some (.int .i8 x)) (by kernel_rfl) (hS.out _ ((Below.refl _ _).drew)) (fun hHeld => ?_)
    refine wpAnyH_take (i := 0) (v := ?_) rfl (by kernel_rfl) (by kernel_rfl) (by kernel_rfl) (fun _ _ _ h => h) (Or.inl ⟨by rfl, ?_⟩) hHeld ?_
    rotate_left
    · intro W9 hSw; (try dsimp only at hSw); go_simp; (try with_reducible rfl)
    simp only [Act.put, List.getElem_toArray, List.getElem_cons_zero, List.getElem_cons_succ, List.setIfInBounds_toArray, List.set_cons_zero, List.set_cons_succ]
    refine wpAnyH_take (i := 1) (v := ?_) rfl (by kernel_rfl) (by kernel_rfl) (by kernel_rfl) (fun _ _ _ h => h) (Or.inl ⟨by rfl, ?_⟩) hHeld ?_
    rotate_left
    · intro W9 hSw; (try dsimp only at hSw); go_simp; (try with_reducible rfl)
    simp only [Act.put, List.getElem_toArray, List.getElem_cons_zero, List.getElem_cons_succ, List.setIfInBounds_toArray, List.set_cons_zero, List.set_cons_succ]
    refine wpAnyH_take (i := 2) (v := ?_) rfl (by kernel_rfl) (by kernel_rfl) (by kernel_rfl) (fun _ _ _ h => h) (Or.inl ⟨by rfl, ?_⟩) hHeld ?_
    rotate_left
    · intro W9 hSw; (try dsimp only at hSw); go_simp; (try with_reducible rfl)
    simp only [Act.put, List.getElem_toArray, List.getElem_cons_zero, List.getElem_cons_succ, List.setIfInBounds_toArray, List.set_cons_zero, List.set_cons_succ]
    refine wpAnyH_take (i := 3) (v := ?_) rfl (by kernel_rfl) (by kernel_rfl) (by kernel_rfl) (fun _ _ _ h => h) (Or.inl ⟨by rfl, ?_⟩) hHeld ?_
    rotate_left
    · intro W9 hSw; (try dsimp only at hSw); go_simp; (try with_reducible rfl)
    simp only [Act.put, List.getElem_toArray, List.getElem_cons_zero, List.getElem_cons_succ, List.setIfInBounds_toArray, List.set_cons_zero, List.set_cons_succ]
    refine wpAnyH_take (i := 4) (v := ?_) rfl (by kernel_rfl) (by kernel_rfl) (by kernel_rfl) (fun _ _ _ h => h) (Or.inl ⟨by rfl, ?_⟩) hHeld ?_
    rotate_left
    · intro W9 hSw; (try dsimp only at hSw); go_simp; (try with_reducible rfl)
    simp only [Act.put, List.getElem_toArray, List.getElem_cons_zero, List.getElem_cons_succ, List.setIfInBounds_toArray, List.set_cons_zero, List.set_cons_succ]
    refine wpAnyH_take (i := 5) (v := ?_) rfl (by kernel_rfl) (by kernel_rfl) (by kernel_rfl) (fun _ _ _ h => h) (Or.inl ⟨by rfl, ?_⟩) hHeld ?_
    rotate_left
    · intro W9 hSw; (try dsimp only at hSw); go_simp; (try with_reducible rfl)
    simp only [Act.put, List.getElem_toArray, List.getElem_cons_zero, List.getElem_cons_succ, List.setIfInBounds_toArray, List.set_cons_zero, List.set_cons_succ]
    refine wpAnyH_ready (rs := [6]) (by kernel_rfl) (by simp) ?_
    refine AllReadyH.cons rfl (fun K hK => ?_) AllReadyH.nil
    go_simp
    go_at_call 75
    refine (hatk.out _).mono ?_
    rintro e w3 ⟨rfl, hb3⟩
    replace hb3 := Lib.hid (undrew hb3)
    refine hK.out _ _ (hS.out _ hb3.out) (fun hHeld2 => ?_)
    clear hK K hHeld
    have hHeld := hHeld2
    clear hHeld2
    refine wpAnyH_take (i := 7) (v := ?_) rfl (by kernel_rfl) (by kernel_rfl) (by kernel_rfl) (fun _ _ _ h => h) (Or.inl ⟨by rfl, ?_⟩) hHeld ?_
    rotate_left
    · intro W9 hSw; (try dsimp only at hSw); go_simp; (try with_reducible rfl)
    simp only [Act.put, List.getElem_toArray, List.getElem_cons_zero, List.getElem_cons_succ, List.setIfInBounds_toArray, List.set_cons_zero, List.set_cons_succ]
    refine wpAnyH_take (i := 8) (v := ?_) rfl (by kernel_rfl) (by kernel_rfl) (by kernel_rfl) (fun _ _ _ h => h) (Or.inl ⟨by rfl, ?_⟩) hHeld ?_
    rotate_left
    · intro W9 hSw; (try dsimp only at hSw); go_simp; (try with_reducible rfl)
    simp only [Act.put, List.getElem_toArray, List.getElem_cons_zero, List.getElem_cons_succ, List.setIfInBounds_toArray, List.set_cons_zero, List.set_cons_succ]
    refine wpAnyH_take (i := 9) (v := ?_) rfl (by kernel_rfl) (by kernel_rfl) (by kernel_rfl) (fun _ _ _ h => h) (Or.inl ⟨by rfl, ?_⟩) hHeld ?_
    rotate_left
    · intro W9 hSw; (try dsimp only at hSw); go_simp; (try with_reducible rfl)
    simp only [Act.put, List.getElem_toArray, List.getElem_cons_zero, List.getElem_cons_succ, List.setIfInBounds_toArray, List.set_cons_zero, List.set_cons_succ]
    refine wpAnyH_done (by kernel_rfl) ?_ _
    clear hHeld hS
    have hB3 := Lib.hid (hB2.out.trans (hb3.out.mono hB2.out.size))
    clear hb3 hB2
    by_cases hx0 : x = 0
    · have q2 : (x != 0) = false := by rw [bne_eq_false_iff_eq]; exact hx0
      have hnew : Hid (hurF f r a sf sr ps m (k + 1) = hurV f r a sf sr ps) := by rw [← hh.out, hst.out, if_pos hx0]; exact rfl
      clear hx0
      go_wp2_with fail
      go_roundw
      case rel => exact ⟨k + 1, m, by omega, by omega, by go_num, hnew, hB3⟩
      case measure => simp [intOf]; omega
    · have q2 : (x != 0) = true := by rw [bne_iff_ne]; exact hx0
      have hV : Hid (hurV f r a sf sr ps = k) := by rw [← hh.out, hst.out, if_neg hx0]; exact rfl
      clear hx0
      go_wp2_with fail
      go_ret
      exact ⟨ri (by rw [hV.out]), hb1.out.trans (hB3.out.mono hb1.out.size)⟩
end Go.Proofs.YtbcdimklblpdnaaGreatDoor
