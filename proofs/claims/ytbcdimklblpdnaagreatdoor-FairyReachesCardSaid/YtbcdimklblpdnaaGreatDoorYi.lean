/- Layer 27: line of the reference. -/
import Derived.Test.YtbcdimklblpdnaaGreatDoorYh
namespace Go.Proofs.YtbcdimklblpdnaaGreatDoor
open Go Go.RowKit
set_option linter.unusedSimpArgs false
set_option linter.unusedVariables false
def iEnc (x : Int) : List Value := [.int .i64 x]
theorem iEnc_len (x : Int) : (iEnc x).length = 1 := rfl
theorem iEnc_one (x : Int) : ∀ u ∈ iEnc x, u.oneCell' = true := by
  intro u hu
  simp only [iEnc, List.mem_cons, List.not_mem_nil, or_false] at hu
  subst hu; rfl
theorem intRow : RowOf Tryz.prog 85 3 1 8 :=
  RowOf.mk' (z := .int .i64 0) Tryz.underlying85 (by kernel_rfl) (by decide) (by decide) rfl
/-- the squares from some steps on, up to the first occupied one, at most some of them -/
def linF (f r a : Nat) (sf sr : Int) (ps : List Int) : Nat → Nat → Nat → List Int
  | 0, _, _ => []
  | n + 1, left, k => if left = 0 then [] else if 0 ≤ sqK f r a sf sr k then sqK f r a sf sr k :: (if ps.getD (sqK f r a sf sr k).toNat 0 = 0 then linF f r a sf sr ps n (left - 1) (k + 1) else []) else []
def linV (f r a : Nat) (sf sr : Int) (ps : List Int) (first most : Nat) : List Int := linF f r a sf sr ps 9 most first
theorem linF_zero (f r a : Nat) (sf sr : Int) (ps : List Int) (n k : Nat) : linF f r a sf sr ps n 0 k = [] := by
  cases n with
  | zero => rfl
  | succ n => exact if_pos rfl
/-- what comes back -/
structure LnR (L : List Int) (e : Ending) (w w' : World) : Prop where
  out : ∃ (A : Option Addr) (c : Nat), e = .returned (.slice A L.length c) ∧ RecAt iEnc 1 w' w'.heap.size A L
  below : Below w.heap.size w w'
set_option maxRecDepth 100000 in
set_option maxHeartbeats 4000000 in
theorem rline (f r a : Nat) (sf sr : Int) (ps : List Int) (P : Option Addr) (c first most : Nat) (w : World) (h : Dir f r a sf sr ps) (hP : RecAt pEnc 1 w w.heap.size P ps) (hf1 : 1 ≤ first ∧ first ≤ 9) (hm8 : most ≤ 8) :
    Calls Tryz.prog 73 #[.agg #[.int .i64 (f : Int), .int .i64 (r : Int), .slice P ps.length c], .int .i64 (a : Int), .agg #[.int .i64 sf, .int .i64 sr], .int .i64 (first : Int), .int .i64 (most : Int)] w fun e w' => LnR (linV f r a sf sr ps first most) e w w' := by
  have hX := Lib.hid (KBd.new w f r P ps.length c)
  have hbA : Hid (Below w.heap.size w (w.alloc (.cells #[.int .i64 (f : Int), .int .i64 (r : Int), .slice P ps.length c] 40))) := (Below.refl _ _).alloc (Nat.le_refl _) _
  have e1 : (w.alloc (.cells #[.int .i64 (f : Int), .int .i64 (r : Int), .slice P ps.length c] 40)).heap.size = w.heap.size + 1 := by simp
  have hY := Lib.hid (KS.new (w.alloc (.cells #[.int .i64 (f : Int), .int .i64 (r : Int), .slice P ps.length c] 40)) sf sr)
  rw [e1] at hY
  have hbB : Below (w.alloc (.cells #[.int .i64 (f : Int), .int .i64 (r : Int), .slice P ps.length c] 40)).heap.size (w.alloc (.cells #[.int .i64 (f : Int), .int .i64 (r : Int), .slice P ps.length c] 40)) ((w.alloc (.cells #[.int .i64 (f : Int), .int .i64 (r : Int), .slice P ps.length c] 40)).alloc (.cells #[.int .i64 sf, .int .i64 sr] 74)) := (Below.refl _ _).alloc (Nat.le_refl _) _
  replace hX := Lib.hid (hX.out.next hbB)
  have hb1 := Lib.hid (hbA.out.trans (hbB.mono hbA.out.size))
  have hPH := Lib.hid (recs_next hP hb1.out)
  have hD := Lib.hid h
  have hl64 : ps.length ≤ 64 := by rw [h.len]; exact Nat.mul_le_mul h.f1 h.r1
  have hat : Hid (∀ (k : Nat) (W : World), k ≤ 20 → Calls Tryz.prog 75 #[.agg #[.int .i64 (f : Int), .int .i64 (r : Int), .slice P ps.length c], .int .i64 (a : Int), .agg #[.int .i64 sf, .int .i64 sr], .int .i64 (k : Int)] W fun e w' => e = .returned (.int .i64 (sqK f r a sf sr k)) ∧ Below W.heap.size W w') := fun k W hk => h.rat hk P ps.length c W
  clear hbA hbB e1 hP h
  go_enter Tryz.func73, Tryz.ntmps73
  go_upto_region 1 with fail
  generalize w.heap.size = B0 at hX hY ⊢
  generalize (w.alloc (.cells #[.int .i64 (f : Int), .int .i64 (r : Int), .slice P ps.length c] 40)).alloc (.cells #[.int .i64 sf, .int .i64 sr] 74) = u at *
  have hO0 : Hid (O1 iEnc 1 u.heap.size 3 u u none 0 ([] : List Int)) := O1.nil (Below.refl _ _) (Nat.le_refl _)
  have hn0 : ([] : List Int).length = 0 := rfl
  go_wp2_with fail
  go_loopw [11, 12] (fun s i wr => ∃ (k n left : Nat) (acc : List Int) (A3 : Option Addr) (c3 : Nat), first ≤ k ∧ k + n = first + 9 ∧ acc.length + left = most ∧ i = .int .i64 (k : Int) ∧ s = .slice A3 acc.length c3 ∧ Hid (acc ++ linF f r a sf sr ps n left k = linV f r a sf sr ps first most) ∧ Hid (O1 iEnc 1 u.heap.size 3 u wr A3 c3 acc)) (fun _ i _ => 30 - (intOf i).toNat)
  case atStart => exact ⟨first, 9, most, [], none, 0, by omega, by omega, by simp, rfl, rfl, rfl, hO0⟩
  case round =>
    clear hO0 hn0
    obtain ⟨k, n, left, acc, A3, c3, hk1, hkn, hal, rfl, rfl, hh, hO⟩ := hrel
    have hk0 : (0 : Int) ≤ (k : Int) := Int.natCast_nonneg _
    obtain ⟨x0, x1, x2, _⟩ := hX.out.next hO.out.below
    obtain ⟨y0, y1, _⟩ := hY.out.next hO.out.below
    have hfin : Hid (linF f r a sf sr ps n left k = [] → LnR (linV f r a sf sr ps first most) (.returned (.slice A3 acc.length c3)) w wr) := fun e => by
      have e2 := hh.out
      rw [e, List.append_nil] at e2
      rw [← e2]
      exact ⟨⟨A3, c3, rfl, hO.out.recs iEnc_len⟩, hb1.out.trans (hO.out.below.mono hb1.out.size)⟩
    by_cases hl0 : left = 0
    · have q0 : ((acc.length : Int) < (most : Int)) = False := eq_false (by omega)
      have hF := Lib.hid (hfin.out (by rw [hl0]; exact linF_zero _ _ _ _ _ _ _ _))
      clear hl0
      go_wp2_with fail
      go_ret
      exact hF.out
    have q0 : ((acc.length : Int) < (most : Int)) = True := eq_true (by omega)
    have hatk := Lib.hid (fun W => hat.out k W (by omega))
    obtain ⟨Z, hZ⟩ : ∃ Z, sqK f r a sf sr k = Z := ⟨_, rfl⟩
    rw [hZ] at hatk
    by_cases hz : 0 ≤ Z
    rotate_left
    · have q1 : (0 ≤ Z) = False := eq_false hz
      have hE : linF f r a sf sr ps n left k = [] := by
        cases n with
        | zero => rfl
        | succ n =>
          show (if left = 0 then _ else _) = _
          rw [if_neg hl0, if_neg (by rw [hZ]; exact hz)]
      have hE2 := hh.out
      rw [hE, List.append_nil] at hE2
      have hE3 := Lib.hid hE2
      clear hz hZ hE hE2 hfin hh hl0
      go_wp2_with fail
      go_at_call 75
      refine (hatk.out _).mono ?_
      rintro e w2 ⟨rfl, hb2⟩
      have hO2 := Lib.hid (hO.out.next hb2)
      clear hb2
      go_wp2_with fail
      go_ret
      rw [← hE3.out]
      exact ⟨⟨A3, c3, rfl, hO2.out.recs iEnc_len⟩, hb1.out.trans (hO2.out.below.mono hb1.out.size)⟩
    have hk8 : k < 8 := by
      apply Nat.lt_of_not_le
      intro h8
      exact hD.out.far h8 (by rw [hZ]; exact hz)
    have hZl := hD.out.lt (k := k) (by rw [hZ]; exact hz)
    rw [hZ, ← hD.out.len] at hZl
    obtain ⟨z, rfl⟩ := Int.eq_ofNat_of_zero_le hz
    have hzl : z < ps.length := by omega
    obtain ⟨x, hx⟩ : ∃ x, ps[z]? = some x := ⟨_, List.getElem?_eq_getElem hzl⟩
    have hgd : Hid (ps.getD (sqK f r a sf sr k).toNat 0 = x) := by rw [hZ, Int.toNat_natCast, List.getD_eq_getElem?_getD, hx]; exact rfl
    obtain ⟨bk, off, rfl, hbk, hc⟩ := recP hPH.out hx
    have hcH : Hid (∀ W, Below u.heap.size u W → W.cell? ⟨bk, off + z, none⟩ = some (.int .i8 x)) := fun W h => (h.cell (p := ⟨bk, off + z, none⟩) hbk).trans hc
    obtain ⟨m, rfl⟩ : ∃ m, n = m + 1 := ⟨n - 1, by omega⟩
    have hst : Hid (linF f r a sf sr ps (m + 1) left k = (z : Int) :: (if x = 0 then linF f r a sf sr ps m (left - 1) (k + 1) else [])) := by
      show (if left = 0 then [] else if 0 ≤ sqK f r a sf sr k then sqK f r a sf sr k :: (if ps.getD (sqK f r a sf sr k).toNat 0 = 0 then linF f r a sf sr ps m (left - 1) (k + 1) else []) else []) = _
      rw [if_neg hl0, if_pos (by rw [hZ]; exact hz), hgd.out, hZ]
    have q1 : ((0 : Int) ≤ (z : Int)) = True := eq_true hz
    have hzI : (z : Int) < (ps.length : Int) := hZl
    have hz0 : (0 : Int) ≤ (z : Int) := hz
    obtain ⟨acc2, hac⟩ : ∃ acc2, acc ++ [(z : Int)] = acc2 := ⟨_, rfl⟩
    have hl2 : acc2.length = acc.length + 1 := by rw [← hac, List.length_append]; rfl
    have hacH := Lib.hid hac
    have hl2H := Lib.hid hl2
    have hlM : acc.length ≤ 100 := by omega
    clear hz hZ hx hc hgd hfin hac
    go_wp2_with fail
    go_at_call 75
    refine (hatk.out _).mono ?_
    rintro e w2 ⟨rfl, hb2⟩
    have hO2 := Lib.hid (hO.out.next hb2)
    clear hb2 x0 x1 x2 y0 y1 hO
    obtain ⟨x0, x1, x2, _⟩ := hX.out.next hO2.out.below
    obtain ⟨y0, y1, _⟩ := hY.out.next hO2.out.below
    go_wp2_with fail
    go_at_call 75
    refine (hatk.out _).mono ?_
    rintro e w3 ⟨rfl, hb3⟩
    have hO3 := Lib.hid (hO2.out.next hb3)
    clear hb3 hO2 x0 x1 x2 y0 y1
    go_upto_region 6 with (at_builtin; refine wpList_append_recs intRow iEnc_len iEnc_one rfl _ _ rfl u.heap.size A3 c3 acc rfl (hO3.out.alloc _).own _ 1 [(z : Int)] rfl (recs_one (fun _ => rfl) _ _ _) (by simp; omega) (hO3.out.alloc _).size ?_; intro A4 c4 w4 hown hg _; rw [hacH.out] at hown ⊢; have hO4 := Lib.hid ((hO3.out.alloc _).app hown hg); clear hown hg)
    clear hO3
    have hS : Hid (∀ W, Below w4.heap.size w4 W → W.cell? ⟨B0, 0, none⟩ = some (.int .i64 (f : Int)) ∧ W.cell? ⟨B0, 1, none⟩ = some (.int .i64 (r : Int)) ∧ W.cell? ⟨B0, 2, none⟩ = some (.slice (some ⟨bk, off, none⟩) ps.length c) ∧ W.cell? ⟨B0 + 1, 0, none⟩ = some (.int .i64 sf) ∧ W.cell? ⟨B0 + 1, 1, none⟩ = some (.int .i64 sr) ∧ W.cell? ⟨bk, off + z, none⟩ = some (.int .i8 x)) := fun W h => by
      have hw := hO4.out.below.trans (h.mono hO4.out.size)
      exact ⟨(hX.out.next hw).c0, (hX.out.next hw).c1, (hX.out.next hw).c2, (hY.out.next hw).c0, (hY.out.next hw).c1, hcH.out W hw⟩
    refine wp_region_held_drew (S := fun W => W.cell? ⟨B0, 0, none⟩ = some (.int .i64 (f : Int)) ∧ W.cell? ⟨B0, 1, none⟩ = some (.int .i64 (r : Int)) ∧ W.cell? ⟨B0, 2, none⟩ = some (.slice (some ⟨bk, off, none⟩) ps.length c) ∧ W.cell? ⟨B0 + 1, 0, none⟩ = some (.int .i64 sf) ∧ W.cell? ⟨B0 + 1, 1, none⟩ = some (.int .i64 sr) ∧ W.cell? ⟨bk, off + z, none⟩ = some (.int .i8 x)) (by kernel_rfl) (hS.out _ ((Below.refl _ _).drew)) (fun hHeld => ?_)
    refine wpAnyH_take (i := 0) (v := ?_) rfl (by kernel_rfl) (by kernel_rfl) (by kernel_rfl) (fun _ _ _ h => h) (Or.inl ⟨by rfl, ?_⟩) hHeld ?_
    rotate_left
    · intro W9 hSw; (try dsimp only at hSw); go_simp; (try with_reducible rfl)
    simp only [Act.put, List.getElem_toArray, List.getElem_cons_zero, List.getElem_cons_succ, List.setIfInBounds_toArray, List.set_cons_zero, List.set_cons_succ]
    refine wpAnyH_take (i := 1) (v := ?_) rfl (by kernel_rfl) (by kernel_rfl) (by kernel_rfl) (fun _ _ _ h => h) (Or.inl ⟨by rfl, ?_⟩) hHeld ?_
    rotate_left
    · intro W9 hSw; (try dsimp only at hSw); go_simp; (try with_reducible rfl)
    simp only [Act.put, List.getElem_toArray, List.getElem_cons_zero, List.getElem_cons_succ, List.setIfInBounds_toArray, List.set_cons_zero, List.set_cons_succ]
    refine wpAnyH_take (i := 2) (v := ?_) rfl (by kernel_rfl) (by kernel_rfl) (by kernel_rfl) (fun _ _ _ h => h) (Or.inl ⟨by rfl, ?_⟩) hHeld ?_
    rotate_left
    · intro W9 hSw; (try dsimp only at hSw); go_simp; (try with_reducible rfl)
    simp only [Act.put, List.getElem_toArray, List.getElem_cons_zero, List.getElem_cons_succ, List.setIfInBounds_toArray, List.set_cons_zero, List.set_cons_succ]
    refine wpAnyH_take (i := 3) (v := ?_) rfl (by kernel_rfl) (by kernel_rfl) (by kernel_rfl) (fun _ _ _ h => h) (Or.inl ⟨by rfl, ?_⟩) hHeld ?_
    rotate_left
    · intro W9 hSw; (try dsimp only at hSw); go_simp; (try with_reducible rfl)
    simp only [Act.put, List.getElem_toArray, List.getElem_cons_zero, List.getElem_cons_succ, List.setIfInBounds_toArray, List.set_cons_zero, List.set_cons_succ]
    refine wpAnyH_take (i := 4) (v := ?_) rfl (by kernel_rfl) (by kernel_rfl) (by kernel_rfl) (fun _ _ _ h => h) (Or.inl ⟨by rfl, ?_⟩) hHeld ?_
    rotate_left
    · intro W9 hSw; (try dsimp only at hSw); go_simp; (try with_reducible rfl)
    simp only [Act.put, List.getElem_toArray, List.getElem_cons_zero, List.getElem_cons_succ, List.setIfInBounds_toArray, List.set_cons_zero, List.set_cons_succ]
    refine wpAnyH_take (i := 5) (v := ?_) rfl (by kernel_rfl) (by kernel_rfl) (by kernel_rfl) (fun _ _ _ h => h) (Or.inl ⟨by rfl, ?_⟩) hHeld ?_
    rotate_left
    · intro W9 hSw; (try dsimp only at hSw); go_simp; (try with_reducible rfl)
    simp only [Act.put, List.getElem_toArray, List.getElem_cons_zero, List.getElem_cons_succ, List.setIfInBounds_toArray, List.set_cons_zero, List.set_cons_succ]
    refine wpAnyH_ready (rs := [6]) (by kernel_rfl) (by simp) ?_
    refine AllReadyH.cons rfl (fun K hK => ?_) AllReadyH.nil
    go_simp
    go_at_call 75
    refine (hatk.out _).mono ?_
    rintro e w5 ⟨rfl, hb5⟩
    replace hb5 := Lib.hid (undrew hb5)
    refine hK.out _ _ (hS.out _ hb5.out) (fun hHeld2 => ?_)
    clear hK K hHeld
    have hHeld := hHeld2
    clear hHeld2
    refine wpAnyH_take (i := 7) (v := ?_) rfl (by kernel_rfl) (by kernel_rfl) (by kernel_rfl) (fun _ _ _ h => h) (Or.inl ⟨by rfl, ?_⟩) hHeld ?_
    rotate_left
    · intro W9 hSw; (try dsimp only at hSw); go_simp; (try with_reducible rfl)
    simp only [Act.put, List.getElem_toArray, List.getElem_cons_zero, List.getElem_cons_succ, List.setIfInBounds_toArray, List.set_cons_zero, List.set_cons_succ]
    refine wpAnyH_take (i := 8) (v := ?_) rfl (by kernel_rfl) (by kernel_rfl) (by kernel_rfl) (fun _ _ _ h => h) (Or.inl ⟨by rfl, ?_⟩) hHeld ?_
    rotate_left
    · intro W9 hSw; (try dsimp only at hSw); go_simp; (try with_reducible rfl)
    simp only [Act.put, List.getElem_toArray, List.getElem_cons_zero, List.getElem_cons_succ, List.setIfInBounds_toArray, List.set_cons_zero, List.set_cons_succ]
    refine wpAnyH_take (i := 9) (v := ?_) rfl (by kernel_rfl) (by kernel_rfl) (by kernel_rfl) (fun _ _ _ h => h) (Or.inl ⟨by rfl, ?_⟩) hHeld ?_
    rotate_left
    · intro W9 hSw; (try dsimp only at hSw); go_simp; (try with_reducible rfl)
    simp only [Act.put, List.getElem_toArray, List.getElem_cons_zero, List.getElem_cons_succ, List.setIfInBounds_toArray, List.set_cons_zero, List.set_cons_succ]
    refine wpAnyH_done (by kernel_rfl) ?_ _
    clear hHeld hS
    have hO5 := Lib.hid (hO4.out.next hb5.out)
    clear hb5 hO4
    by_cases hx0 : x = 0
    · have q2 : (x != 0) = false := by rw [bne_eq_false_iff_eq]; exact hx0
      have hnew : Hid (acc2 ++ linF f r a sf sr ps m (left - 1) (k + 1) = linV f r a sf sr ps first most) := by
        rw [← hh.out, hst.out, if_pos hx0, ← hacH.out, List.append_assoc]; exact rfl
      clear hx0
      go_wp2_with fail
      go_roundw
      case rel => exact ⟨k + 1, m, left - 1, acc2, A4, c4, by omega, by omega, by omega, by go_num, by rw [hl2H.out], hnew, hO5⟩
      case measure => simp [intOf]; omega
    · have q2 : (x != 0) = true := by rw [bne_iff_ne]; exact hx0
      have hV : Hid (acc2 = linV f r a sf sr ps first most) := by
        rw [← hh.out, hst.out, if_neg hx0, ← hacH.out]; exact rfl
      clear hx0
      go_wp2_with fail
      go_ret
      rw [← hV.out]
      exact ⟨⟨A4, c4, by rw [hl2H.out]; exact rfl, hO5.out.recs iEnc_len⟩, hb1.out.trans (hO5.out.below.mono hb1.out.size)⟩
end Go.Proofs.YtbcdimklblpdnaaGreatDoor
