/- Layer 27: reaches of the reference. -/
import Derived.Test.YtbcdimklblpdnaaGreatDoorYi
namespace Go.Proofs.YtbcdimklblpdnaaGreatDoor
open Go Go.RowKit
set_option linter.unusedSimpArgs false
set_option linter.unusedVariables false
section
variable {f r a : Nat} {sf sr : Int} {ps : List Int}
theorem legV_bd (x y : Int) : (-1 ≤ (legV x y).1 ∧ (legV x y).1 ≤ 1) ∧ (-1 ≤ (legV x y).2 ∧ (legV x y).2 ≤ 1) := by
  unfold legV sgnI
  split
  · exact ⟨⟨by simp only []; omega, by simp only []; omega⟩, by simp⟩
  split
  · exact ⟨by simp, ⟨by simp only []; omega, by simp only []; omega⟩⟩
  · exact ⟨⟨by simp only []; omega, by simp only []; omega⟩, ⟨by simp only []; omega, by simp only []; omega⟩⟩
theorem Dir.legD (h : Dir f r a sf sr ps) : Dir f r a (legV sf sr).1 (legV sf sr).2 ps := by
  obtain ⟨⟨b1, b2⟩, b3, b4⟩ := legV_bd sf sr
  refine ⟨h.f0, h.f1, h.r0, h.r1, h.len, h.a0, ⟨by omega, by omega⟩, ⟨by omega, by omega⟩, ?_⟩
  have hn := h.ne
  unfold legV sgnI absI
  split
  · left; simp only []; omega
  split
  · right; simp only []; omega
  · rcases hn with hn | hn
    · left; simp only []; omega
    · right; simp only []; omega
/-- the square on the way -/
def legK (f r a : Nat) (sf sr : Int) : Int := sqK f r a (legV sf sr).1 (legV sf sr).2 1
theorem Dir.leg_on (h : Dir f r a sf sr ps) (hh : 0 ≤ sqK f r a sf sr 1) : 0 ≤ legK f r a sf sr := by
  obtain ⟨h1, h2⟩ := sqK_on hh
  obtain ⟨p1, p2⟩ := h.place
  obtain ⟨⟨b1, b2⟩, b3, b4⟩ := legV_bd sf sr
  have e1 : 0 ≤ ((a % f : Nat) : Int) + (legV sf sr).1 ∧ ((a % f : Nat) : Int) + (legV sf sr).1 ≤ (f : Int) - 1 := by
    generalize a % f = X at *
    unfold legV sgnI at *
    split
    · simp only []; omega
    split
    · simp only []; omega
    · simp only []; omega
  have e2 : 0 ≤ ((a / f : Nat) : Int) + (legV sf sr).2 ∧ ((a / f : Nat) : Int) + (legV sf sr).2 ≤ (r : Int) - 1 := by
    generalize a / f = X at *
    unfold legV sgnI at *
    split
    · simp only []; omega
    split
    · simp only []; omega
    · simp only []; omega
  unfold legK sqK atV
  have o1 : ((1 : Nat) : Int) * (legV sf sr).1 = (legV sf sr).1 := by omega
  have o2 : ((1 : Nat) : Int) * (legV sf sr).2 = (legV sf sr).2 := by omega
  rw [o1, o2, if_pos (by rw [Bool.and_eq_true, inB_iff, inB_iff]; exact ⟨e1, e2⟩)]
  exact Int.add_nonneg e1.1 (Int.mul_nonneg e2.1 (by omega))
theorem hurF_le (n k : Nat) : hurF f r a sf sr ps n k ≤ k + n := by
  induction n generalizing k with
  | zero => exact Nat.zero_le _
  | succ n ih =>
    unfold hurF
    split
    · split
      · have := ih (k + 1); omega
      · omega
    · omega
theorem hurV_le : hurV f r a sf sr ps ≤ 9 := hurF_le 8 1
theorem Dir.hur_le (h : Dir f r a sf sr ps) : hurV f r a sf sr ps ≤ 8 := by
  have key : ∀ (n k : Nat), k + n = 9 → hurF f r a sf sr ps n k ≤ 8 := by
    intro n
    induction n with
    | zero => intro k hk; exact Nat.zero_le _
    | succ n ih =>
      intro k hk
      unfold hurF
      split
      · split
        · exact ih (k + 1) (by omega)
        · omega
      · omega
  exact key 8 1 rfl
/-- the squares that an atom reaches by a step -/
def reachV (x : At) (f r a : Nat) (sf sr : Int) (ps : List Int) : List Int :=
  if x.kind = 2 then linV f r a sf sr ps 1 (if x.most = 0 then 8 else x.most.toNat)
  else if x.kind = 3 then (if hurV f r a sf sr ps = 0 then [] else linV f r a sf sr ps (hurV f r a sf sr ps + 1) 1)
  else if x.kind = 4 then (if hurV f r a sf sr ps = 0 then [] else linV f r a sf sr ps (hurV f r a sf sr ps + 1) 8)
  else if sqK f r a sf sr 1 < 0 then []
  else if x.kind = 5 ∧ ps.getD (legK f r a sf sr).toNat 0 ≠ 0 then [] else [sqK f r a sf sr 1]
end
theorem LnR.nil {w w' : World} {L : List Int} (h : L = []) (hb : Below w.heap.size w w') : LnR L (.returned (.slice none 0 0)) w w' := by
  subst h
  exact ⟨⟨none, 0, rfl, fun h => absurd h (by decide)⟩, hb⟩
theorem LnR.after {w w1 w' : World} {e : Ending} {L : List Int} (h : LnR L e w1 w') (hb : Below w.heap.size w w1) : LnR L e w w' :=
  ⟨h.out, hb.trans (h.below.mono hb.size)⟩
set_option maxRecDepth 100000 in
set_option maxHeartbeats 4000000 in
theorem rreaches (x : At) (f r a : Nat) (sf sr : Int) (ps : List Int) (P : Option Addr) (c : Nat) (w : World) (h : Dir f r a sf sr ps) (hP : RecAt pEnc 1 w w.heap.size P ps) (hx : okA x) :
    Calls Tryz.prog 47 #[.agg #[.int .i64 (f : Int), .int .i64 (r : Int), .slice P ps.length c], aV x, .int .i64 (a : Int), .agg #[.int .i64 sf, .int .i64 sr]] w fun e w' => LnR (reachV x f r a sf sr ps) e w w' := by
  obtain ⟨u, hu⟩ : ∃ u, ((w.alloc (.cells #[.int .i64 (f : Int), .int .i64 (r : Int), .slice P ps.length c] 40)).alloc (.cells #[.int .i64 x.kind, .int .i64 x.short, .int .i64 x.long, .int .i64 x.most, .int .i64 x.mode, .int .i64 x.way] 26)).alloc (.cells #[.int .i64 sf, .int .i64 sr] 74) = u := ⟨_, rfl⟩
  have hbA : Below w.heap.size w (w.alloc (.cells #[.int .i64 (f : Int), .int .i64 (r : Int), .slice P ps.length c] 40)) := (Below.refl _ _).alloc (Nat.le_refl _) _
  have hbB : Below (w.alloc (.cells #[.int .i64 (f : Int), .int .i64 (r : Int), .slice P ps.length c] 40)).heap.size (w.alloc (.cells #[.int .i64 (f : Int), .int .i64 (r : Int), .slice P ps.length c] 40)) ((w.alloc (.cells #[.int .i64 (f : Int), .int .i64 (r : Int), .slice P ps.length c] 40)).alloc (.cells #[.int .i64 x.kind, .int .i64 x.short, .int .i64 x.long, .int .i64 x.most, .int .i64 x.mode, .int .i64 x.way] 26)) := (Below.refl _ _).alloc (Nat.le_refl _) _
  have hbC : Below ((w.alloc (.cells #[.int .i64 (f : Int), .int .i64 (r : Int), .slice P ps.length c] 40)).alloc (.cells #[.int .i64 x.kind, .int .i64 x.short, .int .i64 x.long, .int .i64 x.most, .int .i64 x.mode, .int .i64 x.way] 26)).heap.size ((w.alloc (.cells #[.int .i64 (f : Int), .int .i64 (r : Int), .slice P ps.length c] 40)).alloc (.cells #[.int .i64 x.kind, .int .i64 x.short, .int .i64 x.long, .int .i64 x.most, .int .i64 x.mode, .int .i64 x.way] 26)) (((w.alloc (.cells #[.int .i64 (f : Int), .int .i64 (r : Int), .slice P ps.length c] 40)).alloc (.cells #[.int .i64 x.kind, .int .i64 x.short, .int .i64 x.long, .int .i64 x.most, .int .i64 x.mode, .int .i64 x.way] 26)).alloc (.cells #[.int .i64 sf, .int .i64 sr] 74)) := (Below.refl _ _).alloc (Nat.le_refl _) _
  have e1 : (w.alloc (.cells #[.int .i64 (f : Int), .int .i64 (r : Int), .slice P ps.length c] 40)).heap.size = w.heap.size + 1 := by simp
  have e2 : ((w.alloc (.cells #[.int .i64 (f : Int), .int .i64 (r : Int), .slice P ps.length c] 40)).alloc (.cells #[.int .i64 x.kind, .int .i64 x.short, .int .i64 x.long, .int .i64 x.most, .int .i64 x.mode, .int .i64 x.way] 26)).heap.size = w.heap.size + 1 + 1 := by simp
  have hX0 : KBd u w.heap.size f r P ps.length c := hu ▸ ((KBd.new w f r P ps.length c).next hbB).next hbC
  have hA0 : KA u (w.heap.size + 1) x := by
    have h1 := (KA.new (w.alloc (.cells #[.int .i64 (f : Int), .int .i64 (r : Int), .slice P ps.length c] 40)) x).next hbC
    rw [e1] at h1
    exact hu ▸ h1
  have hY0 : KS u (w.heap.size + 1 + 1) sf sr := by
    have h1 := KS.new ((w.alloc (.cells #[.int .i64 (f : Int), .int .i64 (r : Int), .slice P ps.length c] 40)).alloc (.cells #[.int .i64 x.kind, .int .i64 x.short, .int .i64 x.long, .int .i64 x.most, .int .i64 x.mode, .int .i64 x.way] 26)) sf sr
    rw [e2] at h1
    exact hu ▸ h1
  have hb0 : Below w.heap.size w u := hu ▸ hbA.trans ((hbB.mono hbA.size).trans (hbC.mono (Nat.le_trans hbA.size hbB.size)))
  have hX := Lib.hid hX0
  have hA := Lib.hid hA0
  have hY := Lib.hid hY0
  have hb1 := Lib.hid hb0
  have hPH := Lib.hid (recs_next hP hb1.out)
  have hD := Lib.hid h
  have hxH := Lib.hid hx
  have hk15 : 1 ≤ x.kind ∧ x.kind ≤ 5 := hx.1
  have hmo : 0 ≤ x.most ∧ x.most ≤ 7 := by
    have h6 := hx.2.2.2.2.2
    have : mostA x ≤ 7 := by unfold mostA; split <;> omega
    omega
  have hl64 : ps.length ≤ 64 := by rw [h.len]; exact Nat.mul_le_mul h.f1 h.r1
  have hat : Hid (∀ (k : Nat) (W : World), k ≤ 20 → Calls Tryz.prog 75 #[.agg #[.int .i64 (f : Int), .int .i64 (r : Int), .slice P ps.length c], .int .i64 (a : Int), .agg #[.int .i64 sf, .int .i64 sr], .int .i64 (k : Int)] W fun e w' => e = .returned (.int .i64 (sqK f r a sf sr k)) ∧ Below W.heap.size W w') := fun k W hk => h.rat hk P ps.length c W
  have hlin : Hid (∀ (k m : Nat) (W : World), 1 ≤ k ∧ k ≤ 9 → m ≤ 8 → Below u.heap.size u W → Calls Tryz.prog 73 #[.agg #[.int .i64 (f : Int), .int .i64 (r : Int), .slice P ps.length c], .int .i64 (a : Int), .agg #[.int .i64 sf, .int .i64 sr], .int .i64 (k : Int), .int .i64 (m : Int)] W fun e w' => LnR (linV f r a sf sr ps k m) e W w') := fun k m W hk hm hW => rline f r a sf sr ps P c k m W h (recs_next hPH.out hW) hk hm
  have hhur : Hid (∀ W, Below u.heap.size u W → Calls Tryz.prog 74 #[.agg #[.int .i64 (f : Int), .int .i64 (r : Int), .slice P ps.length c], .int .i64 (a : Int), .agg #[.int .i64 sf, .int .i64 sr]] W fun e w' => e = .returned (.int .i64 (hurV f r a sf sr ps : Int)) ∧ Below W.heap.size W w') := fun W hW => rhurdle f r a sf sr ps P c W h (recs_next hPH.out hW)
  have hle : Hid (∀ W, Calls Tryz.prog 76 #[.agg #[.int .i64 sf, .int .i64 sr]] W fun e w' => e = .returned (.agg #[.int .i64 (legV sf sr).1, .int .i64 (legV sf sr).2]) ∧ Below W.heap.size W w') := fun W => rleg sf sr W (by have := h.s0; omega) (by have := h.s1; omega)
  have hV : Hid (reachV x f r a sf sr ps = if x.kind = 2 then linV f r a sf sr ps 1 (if x.most = 0 then 8 else x.most.toNat)
  else if x.kind = 3 then (if hurV f r a sf sr ps = 0 then [] else linV f r a sf sr ps (hurV f r a sf sr ps + 1) 1)
  else if x.kind = 4 then (if hurV f r a sf sr ps = 0 then [] else linV f r a sf sr ps (hurV f r a sf sr ps + 1) 8)
  else if sqK f r a sf sr 1 < 0 then []
  else if x.kind = 5 ∧ ps.getD (legK f r a sf sr).toNat 0 ≠ 0 then [] else [sqK f r a sf sr 1]) := rfl
  clear hbA hbB hbC e1 e2 hX0 hA0 hY0 hb0 hx h hP
  go_enter Tryz.func47, Tryz.ntmps47
  go_upto_region 1 with fail
  generalize w.heap.size = B0 at hX hA hY ⊢
  simp only [hu] at *
  clear hu
  obtain ⟨x0, x1, x2, _⟩ := hX.out
  obtain ⟨a0, _, _, a3, _, _, _⟩ := hA.out
  obtain ⟨y0, y1, _⟩ := hY.out
  by_cases k2 : x.kind = 2
  · have q2 : (x.kind == 2) = true := by rw [beq_iff_eq]; exact k2
    by_cases m0 : x.most = 0
    · have qm : (x.most == 0) = true := by rw [beq_iff_eq]; exact m0
      have hV1 : Hid (reachV x f r a sf sr ps = linV f r a sf sr ps 1 8) := hV.out.trans (by rw [if_pos k2, if_pos m0])
      have hc := Lib.hid (fun W hW => hlin.out 1 8 W (by omega) (by omega) hW)
      clear k2 m0 hV
      go_wp2_with fail
      go_at_call 73
      refine (hc.out _ (Below.refl _ _)).mono ?_
      rintro e w2 hLn
      obtain ⟨A, c2, rfl, hR⟩ := hLn.out
      have hres := Lib.hid (LnR.after hLn hb1.out)
      clear hLn hR
      go_wp2_with fail
      go_ret
      rw [hV1.out]; exact hres.out
    · have qm : (x.most == 0) = false := by rw [beq_eq_false_iff_ne]; exact m0
      obtain ⟨n, hn⟩ := Int.eq_ofNat_of_zero_le hmo.1
      have hV1 : Hid (reachV x f r a sf sr ps = linV f r a sf sr ps 1 n) := hV.out.trans (by rw [if_pos k2, if_neg m0, hn]; rfl)
      have hc := Lib.hid (fun W hW => hlin.out 1 n W (by omega) (by omega) hW)
      rw [show ((n : Nat) : Int) = x.most from hn.symm] at hc
      clear k2 m0 hV hn
      go_wp2_with fail
      go_at_call 73
      refine (hc.out _ (Below.refl _ _)).mono ?_
      rintro e w2 hLn
      obtain ⟨A, c2, rfl, hR⟩ := hLn.out
      have hres := Lib.hid (LnR.after hLn hb1.out)
      clear hLn hR
      go_wp2_with fail
      go_ret
      rw [hV1.out]; exact hres.out
  have q2 : (x.kind == 2) = false := by rw [beq_eq_false_iff_ne]; exact k2
  obtain ⟨H, hH⟩ : ∃ H, hurV f r a sf sr ps = H := ⟨_, rfl⟩
  have hH8 : H ≤ 8 := hH ▸ hD.out.hur_le
  rw [hH] at hV hhur
  clear hH
  by_cases k3 : x.kind = 3
  · have q3 : (x.kind == 3) = true := by rw [beq_iff_eq]; exact k3
    by_cases z : H = 0
    · have qz : ((H : Int) = 0) = True := eq_true (by omega)
      have qz' : ((H : Int) == 0) = true := by rw [beq_iff_eq]; omega
      have hV1 : Hid (reachV x f r a sf sr ps = []) := hV.out.trans (by rw [if_neg k2, if_pos k3, if_pos z])
      clear k2 k3 z hV
      go_wp2_with fail
      go_at_call 74
      refine (hhur.out _ (Below.refl _ _)).mono ?_
      rintro e w2 ⟨rfl, hb2⟩
      have hb3 := Lib.hid (hb1.out.trans (hb2.mono hb1.out.size))
      clear hb2
      go_wp2_with fail
      go_ret
      exact LnR.nil hV1.out hb3.out
    · have qz : ((H : Int) = 0) = False := eq_false (by omega)
      have qz' : ((H : Int) == 0) = false := by rw [beq_eq_false_iff_ne]; omega
      have hV1 : Hid (reachV x f r a sf sr ps = linV f r a sf sr ps (H + 1) 1) := hV.out.trans (by rw [if_neg k2, if_pos k3, if_neg z])
      have hc := Lib.hid (fun W hW => hlin.out (H + 1) 1 W (by omega) (by omega) hW)
      have hH1 : IntKind.i64.wrap ((H : Int) + 1) = ((H + 1 : Nat) : Int) := IntWalk.i64_in _ (by omega)
      clear k2 k3 z hV
      go_wp2_with fail
      go_at_call 74
      refine (hhur.out _ (Below.refl _ _)).mono ?_
      rintro e w2 ⟨rfl, hb2⟩
      have hb2H := Lib.hid hb2
      have hb3 := Lib.hid (hb1.out.trans (hb2.mono hb1.out.size))
      clear x0 x1 x2 a0 a3 y0 y1 hb2
      obtain ⟨x0, x1, x2, _⟩ := hX.out.next hb2H.out
      obtain ⟨a0, _, _, a3, _, _, _⟩ := hA.out.next hb2H.out
      obtain ⟨y0, y1, _⟩ := hY.out.next hb2H.out
      go_wp2_with fail
      go_at_call 73
      refine (hc.out _ hb2H.out).mono ?_
      rintro e w3 hLn
      obtain ⟨A, c2, rfl, hR⟩ := hLn.out
      have hres := Lib.hid (LnR.after hLn hb3.out)
      clear hLn hR
      go_wp2_with fail
      go_ret
      rw [hV1.out]; exact hres.out
  have q3 : (x.kind == 3) = false := by rw [beq_eq_false_iff_ne]; exact k3
  by_cases k4 : x.kind = 4
  · have q4 : (x.kind == 4) = true := by rw [beq_iff_eq]; exact k4
    by_cases z : H = 0
    · have qz : ((H : Int) = 0) = True := eq_true (by omega)
      have qz' : ((H : Int) == 0) = true := by rw [beq_iff_eq]; omega
      have hV1 : Hid (reachV x f r a sf sr ps = []) := hV.out.trans (by rw [if_neg k2, if_neg k3, if_pos k4, if_pos z])
      clear k2 k3 k4 z hV
      go_wp2_with fail
      go_at_call 74
      refine (hhur.out _ (Below.refl _ _)).mono ?_
      rintro e w2 ⟨rfl, hb2⟩
      have hb3 := Lib.hid (hb1.out.trans (hb2.mono hb1.out.size))
      clear hb2
      go_wp2_with fail
      go_ret
      exact LnR.nil hV1.out hb3.out
    · have qz : ((H : Int) = 0) = False := eq_false (by omega)
      have qz' : ((H : Int) == 0) = false := by rw [beq_eq_false_iff_ne]; omega
      have hV1 : Hid (reachV x f r a sf sr ps = linV f r a sf sr ps (H + 1) 8) := hV.out.trans (by rw [if_neg k2, if_neg k3, if_pos k4, if_neg z])
      have hc := Lib.hid (fun W hW => hlin.out (H + 1) 8 W (by omega) (by omega) hW)
      have hH1 : IntKind.i64.wrap ((H : Int) + 1) = ((H + 1 : Nat) : Int) := IntWalk.i64_in _ (by omega)
      clear k2 k3 k4 z hV
      go_wp2_with fail
      go_at_call 74
      refine (hhur.out _ (Below.refl _ _)).mono ?_
      rintro e w2 ⟨rfl, hb2⟩
      have hb2H := Lib.hid hb2
      have hb3 := Lib.hid (hb1.out.trans (hb2.mono hb1.out.size))
      clear x0 x1 x2 a0 a3 y0 y1 hb2
      obtain ⟨x0, x1, x2, _⟩ := hX.out.next hb2H.out
      obtain ⟨a0, _, _, a3, _, _, _⟩ := hA.out.next hb2H.out
      obtain ⟨y0, y1, _⟩ := hY.out.next hb2H.out
      go_wp2_with fail
      go_at_call 73
      refine (hc.out _ hb2H.out).mono ?_
      rintro e w3 hLn
      obtain ⟨A, c2, rfl, hR⟩ := hLn.out
      have hres := Lib.hid (LnR.after hLn hb3.out)
      clear hLn hR
      go_wp2_with fail
      go_ret
      rw [hV1.out]; exact hres.out
  have q4 : (x.kind == 4) = false := by rw [beq_eq_false_iff_ne]; exact k4
  clear hhur hH8
  have hat1 := Lib.hid (fun W => hat.out 1 W (by omega))
  obtain ⟨Z, hZ⟩ : ∃ Z, sqK f r a sf sr 1 = Z := ⟨_, rfl⟩
  rw [hZ] at hat1 hV
  have hZH := Lib.hid hZ
  clear hZ hat hlin
  go_upto_region 13 with (go_at_call 75; refine (hat1.out _).mono ?_; rintro e w2 ⟨rfl, hb2⟩; have hb2H := Lib.hid hb2; clear hb2)
  have hb3 := Lib.hid (hb1.out.trans (hb2H.out.mono hb1.out.size))
  clear x0 x1 x2 a0 a3 y0 y1
  obtain ⟨x0, x1, x2, _⟩ := hX.out.next hb2H.out
  obtain ⟨a0, _, _, a3, _, _, _⟩ := hA.out.next hb2H.out
  obtain ⟨y0, y1, _⟩ := hY.out.next hb2H.out
  by_cases hz : Z < 0
  · have qz : (Z < 0) = True := eq_true hz
    have hV1 : Hid (reachV x f r a sf sr ps = []) := hV.out.trans (by rw [if_neg k2, if_neg k3, if_neg k4, if_pos hz])
    clear k2 k3 k4 hz hV
    go_quiet (fail)
    go_wp2_with fail
    go_ret
    exact LnR.nil hV1.out (below_drewN hb3.out _)
  have qz : (Z < 0) = False := eq_false hz
  have hz0 : Hid (0 ≤ sqK f r a sf sr 1) := by rw [hZH.out]; exact Int.not_lt.1 hz
  by_cases k5 : x.kind = 5
  rotate_left
  · have q5 : (x.kind == 5) = false := by rw [beq_eq_false_iff_ne]; exact k5
    have hV1 : Hid (reachV x f r a sf sr ps = [Z]) := hV.out.trans (by rw [if_neg k2, if_neg k3, if_neg k4, if_neg hz, if_neg (fun h => k5 h.1)])
    clear k2 k3 k4 k5 hz hV
    go_quiet (fail)
    go_wp2_with fail
    go_ret
    rw [hV1.out]
    exact ⟨⟨_, _, rfl, recs_one (fun _ => rfl) _ _ _⟩, (below_drewN hb3.out _).alloc hb3.out.size _⟩
  have q5 : (x.kind == 5) = true := by rw [beq_iff_eq]; exact k5
  have hL0 := hD.out.leg_on hz0.out
  have hD2 := hD.out.legD
  have hLl : legK f r a sf sr < ((f * r : Nat) : Int) := hD2.lt (k := 1) hL0
  obtain ⟨lx, hlx⟩ : ∃ lx, (legV sf sr).1 = lx := ⟨_, rfl⟩
  obtain ⟨ly, hly⟩ : ∃ ly, (legV sf sr).2 = ly := ⟨_, rfl⟩
  have hat2 : Hid (∀ (W : World), Calls Tryz.prog 75 #[.agg #[.int .i64 (f : Int), .int .i64 (r : Int), .slice P ps.length c], .int .i64 (a : Int), .agg #[.int .i64 lx, .int .i64 ly], .int .i64 1] W fun e w' => e = .returned (.int .i64 (legK f r a sf sr)) ∧ Below W.heap.size W w') := fun W => by
    have h1 := hD2.rat (k := 1) (by omega) P ps.length c W
    rw [hlx, hly] at h1
    unfold legK
    rw [hlx, hly]
    exact h1
  rw [hlx, hly] at hle
  clear hlx hly hD2
  rw [← hD.out.len] at hLl
  obtain ⟨z, hz9⟩ := Int.eq_ofNat_of_zero_le hL0
  rw [hz9] at hLl hat2
  have hzl : z < ps.length := by omega
  obtain ⟨p, hp⟩ : ∃ p, ps[z]? = some p := ⟨_, List.getElem?_eq_getElem hzl⟩
  have hgd : ps.getD (legK f r a sf sr).toNat 0 = p := by rw [hz9, Int.toNat_natCast, List.getD_eq_getElem?_getD, hp]; exact rfl
  obtain ⟨bk, off, rfl, hbk, hc⟩ := recP hPH.out hp
  have hcH : Hid (∀ W, Below u.heap.size u W → W.cell? ⟨bk, off + z, none⟩ = some (.int .i8 p)) := fun W h => (h.cell (p := ⟨bk, off + z, none⟩) hbk).trans hc
  have hzI : (z : Int) < (ps.length : Int) := hLl
  have hzn : (0 : Int) ≤ (z : Int) := Int.natCast_nonneg _
  have hV1 : Hid (reachV x f r a sf sr ps = if p = 0 then [Z] else []) := by
    have h1 := hV.out
    rw [if_neg k2, if_neg k3, if_neg k4, if_neg hz, hgd] at h1
    rw [h1]
    by_cases hp0 : p = 0
    · rw [if_pos hp0, if_neg (fun h => h.2 hp0)]; exact rfl
    · rw [if_neg hp0, if_pos ⟨k5, hp0⟩]; exact rfl
  have hS : Hid (∀ W, Below w2.heap.size w2 W → W.cell? ⟨B0, 0, none⟩ = some (.int .i64 (f : Int)) ∧ W.cell? ⟨B0, 1, none⟩ = some (.int .i64 (r : Int)) ∧ W.cell? ⟨B0, 2, none⟩ = some (.slice (some ⟨bk, off, none⟩) ps.length c) ∧ W.cell? ⟨B0 + 1, 0, none⟩ = some (.int .i64 x.kind) ∧ W.cell? ⟨B0 + 1 + 1, 0, none⟩ = some (.int .i64 sf) ∧ W.cell? ⟨B0 + 1 + 1, 1, none⟩ = some (.int .i64 sr) ∧ W.cell? ⟨bk, off + z, none⟩ = some (.int .i8 p)) := fun W h => by
    have hw := hb2H.out.trans (h.mono hb2H.out.size)
    exact ⟨(hX.out.next hw).c0, (hX.out.next hw).c1, (hX.out.next hw).c2, (hA.out.next hw).c0, (hY.out.next hw).c0, (hY.out.next hw).c1, hcH.out W hw⟩
  clear hV k2 k3 k4 k5 hz hz9 hp hgd hc x0 x1 x2 a0 a3 y0 y1 hL0 hLl
  refine wp_region_held_drew (S := fun W => W.cell? ⟨B0, 0, none⟩ = some (.int .i64 (f : Int)) ∧ W.cell? ⟨B0, 1, none⟩ = some (.int .i64 (r : Int)) ∧ W.cell? ⟨B0, 2, none⟩ = some (.slice (some ⟨bk, off, none⟩) ps.length c) ∧ W.cell? ⟨B0 + 1, 0, none⟩ = some (.int .i64 x.kind) ∧ W.cell? ⟨B0 + 1 + 1, 0, none⟩ = some (.int .i64 sf) ∧ W.cell? ⟨B0 + 1 + 1, 1, none⟩ = some (.int .i64 sr) ∧ W.cell? ⟨bk, off + z, none⟩ = some (.int .i8 p)) (by kernel_rfl) (hS.out _ ((Below.refl _ _).drew)) (fun hHeld => ?_)
  refine wpAnyH_take (i := 0) (v := ?_) rfl (by kernel_rfl) (by kernel_rfl) (by kernel_rfl) (fun _ _ _ h => h) (Or.inl ⟨by rfl, ?_⟩) hHeld ?_
  rotate_left
  · intro W9 hSw; (try dsimp only at hSw); go_simp; (try with_reducible rfl)
  simp only [Act.put, List.getElem_toArray, List.getElem_cons_zero, List.getElem_cons_succ, List.setIfInBounds_toArray, List.set_cons_zero, List.set_cons_succ]
  refine wpAnyH_take (i := 1) (v := ?_) rfl (by kernel_rfl) (by kernel_rfl) (by kernel_rfl) (fun _ _ _ h => h) (Or.inl ⟨by rfl, ?_⟩) hHeld ?_
  rotate_left
  · intro W9 hSw; (try dsimp only at hSw); go_simp; (try with_reducible rfl)
  simp only [Act.put, List.getElem_toArray, List.getElem_cons_zero, List.getElem_cons_succ, List.setIfInBounds_toArray, List.set_cons_zero, List.set_cons_succ]
  refine wpAnyH_take (i := 2) (v := ?_) rfl (by kernel_rfl) (by kernel_rfl) (by kernel_rfl) (fun _ _ _ h => h) (Or.inl ⟨by rfl, ?_⟩) hHeld ?_
  rotate_left
  · intro W9 hSw; (try dsimp only at hSw); go_simp; (try with_reducible rfl)
  simp only [Act.put, List.getElem_toArray, List.getElem_cons_zero, List.getElem_cons_succ, List.setIfInBounds_toArray, List.set_cons_zero, List.set_cons_succ]
  refine wpAnyH_take (i := 3) (v := ?_) rfl (by kernel_rfl) (by kernel_rfl) (by kernel_rfl) (fun _ _ _ h => h) (Or.inl ⟨by rfl, ?_⟩) hHeld ?_
  rotate_left
  · intro W9 hSw; (try dsimp only at hSw); go_simp; (try with_reducible rfl)
  simp only [Act.put, List.getElem_toArray, List.getElem_cons_zero, List.getElem_cons_succ, List.setIfInBounds_toArray, List.set_cons_zero, List.set_cons_succ]
  refine wpAnyH_take (i := 4) (v := ?_) rfl (by kernel_rfl) (by kernel_rfl) (by kernel_rfl) (fun _ _ _ h => h) (Or.inl ⟨by rfl, ?_⟩) hHeld ?_
  rotate_left
  · intro W9 hSw; (try dsimp only at hSw); go_simp; (try with_reducible rfl)
  simp only [Act.put, List.getElem_toArray, List.getElem_cons_zero, List.getElem_cons_succ, List.setIfInBounds_toArray, List.set_cons_zero, List.set_cons_succ]
  refine wpAnyH_take (i := 5) (v := ?_) rfl (by kernel_rfl) (by kernel_rfl) (by kernel_rfl) (fun _ _ _ h => h) (Or.inl ⟨by rfl, ?_⟩) hHeld ?_
  rotate_left
  · intro W9 hSw; (try dsimp only at hSw); go_simp; (try with_reducible rfl)
  simp only [Act.put, List.getElem_toArray, List.getElem_cons_zero, List.getElem_cons_succ, List.setIfInBounds_toArray, List.set_cons_zero, List.set_cons_succ]
  refine wpAnyH_take (i := 6) (v := ?_) rfl (by kernel_rfl) (by kernel_rfl) (by kernel_rfl) (fun _ _ _ h => h) (Or.inl ⟨by rfl, ?_⟩) hHeld ?_
  rotate_left
  · intro W9 hSw; (try dsimp only at hSw); go_simp; (try with_reducible rfl)
  simp only [Act.put, List.getElem_toArray, List.getElem_cons_zero, List.getElem_cons_succ, List.setIfInBounds_toArray, List.set_cons_zero, List.set_cons_succ]
  refine wpAnyH_take (i := 7) (v := ?_) rfl (by kernel_rfl) (by kernel_rfl) (by kernel_rfl) (fun _ _ _ h => h) (Or.inl ⟨by rfl, ?_⟩) hHeld ?_
  rotate_left
  · intro W9 hSw; (try dsimp only at hSw); go_simp; (try with_reducible rfl)
  simp only [Act.put, List.getElem_toArray, List.getElem_cons_zero, List.getElem_cons_succ, List.setIfInBounds_toArray, List.set_cons_zero, List.set_cons_succ]
  refine wpAnyH_take (i := 8) (v := ?_) rfl (by kernel_rfl) (by kernel_rfl) (by kernel_rfl) (fun _ _ _ h => h) (Or.inl ⟨by rfl, ?_⟩) hHeld ?_
  rotate_left
  · intro W9 hSw; (try dsimp only at hSw); go_simp; (try with_reducible rfl)
  simp only [Act.put, List.getElem_toArray, List.getElem_cons_zero, List.getElem_cons_succ, List.setIfInBounds_toArray, List.set_cons_zero, List.set_cons_succ]
  refine wpAnyH_take (i := 9) (v := ?_) rfl (by kernel_rfl) (by kernel_rfl) (by kernel_rfl) (fun _ _ _ h => h) (Or.inl ⟨by rfl, ?_⟩) hHeld ?_
  rotate_left
  · intro W9 hSw; (try dsimp only at hSw); go_simp; (try with_reducible rfl)
  simp only [Act.put, List.getElem_toArray, List.getElem_cons_zero, List.getElem_cons_succ, List.setIfInBounds_toArray, List.set_cons_zero, List.set_cons_succ]
  refine wpAnyH_take (i := 10) (v := ?_) rfl (by kernel_rfl) (by kernel_rfl) (by kernel_rfl) (fun _ _ _ h => h) (Or.inl ⟨by rfl, ?_⟩) hHeld ?_
  rotate_left
  · intro W9 hSw; (try dsimp only at hSw); go_simp; (try with_reducible rfl)
  simp only [Act.put, List.getElem_toArray, List.getElem_cons_zero, List.getElem_cons_succ, List.setIfInBounds_toArray, List.set_cons_zero, List.set_cons_succ]
  refine wpAnyH_take (i := 11) (v := ?_) rfl (by kernel_rfl) (by kernel_rfl) (by kernel_rfl) (fun _ _ _ h => h) (Or.inl ⟨by rfl, ?_⟩) hHeld ?_
  rotate_left
  · intro W9 hSw; (try dsimp only at hSw); go_simp; (try with_reducible rfl)
  simp only [Act.put, List.getElem_toArray, List.getElem_cons_zero, List.getElem_cons_succ, List.setIfInBounds_toArray, List.set_cons_zero, List.set_cons_succ]
  refine wpAnyH_ready (rs := [12]) (by kernel_rfl) (by simp) ?_
  refine AllReadyH.cons rfl (fun K hK => ?_) AllReadyH.nil
  go_simp
  go_at_call 76
  refine (hle.out _).mono ?_
  rintro e w5 ⟨rfl, hb5⟩
  replace hb5 := Lib.hid (undrew hb5)
  refine hK.out _ _ (hS.out _ hb5.out) (fun hHeld2 => ?_)
  clear hK K hHeld
  have hHeld := hHeld2
  clear hHeld2
  refine wpAnyH_ready (rs := [13]) (by kernel_rfl) (by simp) ?_
  refine AllReadyH.cons rfl (fun K hK => ?_) AllReadyH.nil
  go_simp
  go_at_call 75
  refine (hat2.out _).mono ?_
  rintro e w6 ⟨rfl, hb6⟩
  replace hb6 := Lib.hid (hb5.out.trans (hb6.mono hb5.out.size))
  refine hK.out _ _ (hS.out _ hb6.out) (fun hHeld2 => ?_)
  clear hK K hHeld
  have hHeld := hHeld2
  clear hHeld2
  refine wpAnyH_take (i := 14) (v := ?_) rfl (by kernel_rfl) (by kernel_rfl) (by kernel_rfl) (fun _ _ _ h => h) (Or.inl ⟨by rfl, ?_⟩) hHeld ?_
  rotate_left
  · intro W9 hSw; (try dsimp only at hSw); go_simp; (try with_reducible rfl)
  simp only [Act.put, List.getElem_toArray, List.getElem_cons_zero, List.getElem_cons_succ, List.setIfInBounds_toArray, List.set_cons_zero, List.set_cons_succ]
  refine wpAnyH_take (i := 15) (v := ?_) rfl (by kernel_rfl) (by kernel_rfl) (by kernel_rfl) (fun _ _ _ h => h) (Or.inl ⟨by rfl, ?_⟩) hHeld ?_
  rotate_left
  · intro W9 hSw; (try dsimp only at hSw); go_simp; (try with_reducible rfl)
  simp only [Act.put, List.getElem_toArray, List.getElem_cons_zero, List.getElem_cons_succ, List.setIfInBounds_toArray, List.set_cons_zero, List.set_cons_succ]
  refine wpAnyH_take (i := 16) (v := ?_) rfl (by kernel_rfl) (by kernel_rfl) (by kernel_rfl) (fun _ _ _ h => h) (Or.inl ⟨by rfl, ?_⟩) hHeld ?_
  rotate_left
  · intro W9 hSw; (try dsimp only at hSw); go_simp; (try with_reducible rfl)
  simp only [Act.put, List.getElem_toArray, List.getElem_cons_zero, List.getElem_cons_succ, List.setIfInBounds_toArray, List.set_cons_zero, List.set_cons_succ]
  refine wpAnyH_take (i := 17) (v := ?_) rfl (by kernel_rfl) (by kernel_rfl) (by kernel_rfl) (fun _ _ _ h => h) (Or.inl ⟨by rfl, ?_⟩) hHeld ?_
  rotate_left
  · intro W9 hSw; (try dsimp only at hSw); go_simp; (try with_reducible rfl)
  simp only [Act.put, List.getElem_toArray, List.getElem_cons_zero, List.getElem_cons_succ, List.setIfInBounds_toArray, List.set_cons_zero, List.set_cons_succ]
  refine wpAnyH_take (i := 18) (v := ?_) rfl (by kernel_rfl) (by kernel_rfl) (by kernel_rfl) (fun _ _ _ h => h) (Or.inl ⟨by rfl, ?_⟩) hHeld ?_
  rotate_left
  · intro W9 hSw; (try dsimp only at hSw); go_simp; (try with_reducible rfl)
  simp only [Act.put, List.getElem_toArray, List.getElem_cons_zero, List.getElem_cons_succ, List.setIfInBounds_toArray, List.set_cons_zero, List.set_cons_succ]
  refine wpAnyH_done (by kernel_rfl) ?_ _
  clear hHeld hS
  have hb7 := Lib.hid (hb3.out.trans (hb6.out.mono hb3.out.size))
  clear hb5 hb6 hb3 hb2H hcH hat2 hle
  by_cases hp0 : p = 0
  · have q9 : (p != 0) = false := by rw [bne_eq_false_iff_eq]; exact hp0
    have hV2 : Hid (reachV x f r a sf sr ps = [Z]) := hV1.out.trans (if_pos hp0)
    clear hp0 hV1
    go_wp2_with fail
    go_ret
    rw [hV2.out]
    exact ⟨⟨_, _, rfl, recs_one (fun _ => rfl) _ _ _⟩, hb7.out.alloc hb7.out.size _⟩
  · have q9 : (p != 0) = true := by rw [bne_iff_ne]; exact hp0
    have hV2 : Hid (reachV x f r a sf sr ps = []) := hV1.out.trans (if_neg hp0)
    clear hp0 hV1
    go_wp2_with fail
    go_ret
    exact LnR.nil hV2.out hb7.out
end Go.Proofs.YtbcdimklblpdnaaGreatDoor
