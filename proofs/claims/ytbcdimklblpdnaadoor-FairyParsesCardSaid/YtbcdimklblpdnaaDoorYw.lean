/- Layer 27: check, Attacks, Goes and Takes of the program. -/
import Derived.Test.YtbcdimklblpdnaaDoorYv
namespace Go.Proofs.YtbcdimklblpdnaaDoor
open Go Go.RowKit
set_option linter.unusedSimpArgs false
set_option linter.unusedVariables false
set_option maxRecDepth 100000 in
set_option maxHeartbeats 1000000 in
theorem pcheck (f r : Int) (ps : List Int) (P : Option Addr) (c : Nat) (s : ByteArray) (A : Option Addr) (l : List At) (ca : Nat) (a : Int) (w : World) (hP : RecAt pEnc 1 w w.heap.size P ps) (hR : RecAt aEnc 6 w w.heap.size A l) (hl : ps.length ≤ 100000) (hwf : ∀ x ∈ l, wfA x) (hla : l.length ≤ 100000) (hs : s.size ≤ maxLen) :
    Calls Tryd.prog 28 #[.agg #[.int .i64 f, .int .i64 r, .slice P ps.length c], .agg #[.string s, .slice A l.length ca], .int .i64 a] w fun e w' => e = .returned (.int .i64 (if alB f r ps s l a then 0 else 2)) ∧ Below w.heap.size w w' := by
  obtain ⟨u, hu⟩ : ∃ u, (w.alloc (.cells #[.int .i64 f, .int .i64 r, .slice P ps.length c] 48)).alloc (.cells #[.string s, .slice A l.length ca] 25) = u := ⟨_, rfl⟩
  have hbA : Below w.heap.size w (w.alloc (.cells #[.int .i64 f, .int .i64 r, .slice P ps.length c] 48)) := (Below.refl _ _).alloc (Nat.le_refl _) _
  have hbB : Below (w.alloc (.cells #[.int .i64 f, .int .i64 r, .slice P ps.length c] 48)).heap.size (w.alloc (.cells #[.int .i64 f, .int .i64 r, .slice P ps.length c] 48)) ((w.alloc (.cells #[.int .i64 f, .int .i64 r, .slice P ps.length c] 48)).alloc (.cells #[.string s, .slice A l.length ca] 25)) := (Below.refl _ _).alloc (Nat.le_refl _) _
  have e1 : (w.alloc (.cells #[.int .i64 f, .int .i64 r, .slice P ps.length c] 48)).heap.size = w.heap.size + 1 := by simp
  have hX0 : KBd u w.heap.size f r P ps.length c := hu ▸ (KBd.new w f r P ps.length c).next hbB
  have hF0 : KF u (w.heap.size + 1) s A l.length ca := by
    have h1 := KF.new (w.alloc (.cells #[.int .i64 f, .int .i64 r, .slice P ps.length c] 48)) s A l.length ca
    rw [e1] at h1
    exact hu ▸ h1
  have hb0 : Below w.heap.size w u := hu ▸ hbA.trans (hbB.mono hbA.size)
  have hX := Lib.hid hX0
  have hF := Lib.hid hF0
  have hb1 := Lib.hid hb0
  have hPH := Lib.hid (recs_next hP hb1.out)
  have hRH := Lib.hid (recs_next hR hb1.out)
  clear hbA hbB e1 hX0 hF0 hb0 hP hR
  have hVl : Hid (∀ W, Below u.heap.size u W → Calls Tryd.prog 34 #[.agg #[.string s, .slice A l.length ca]] W fun e w' => e = .returned (.bool (fyB s l)) ∧ Below W.heap.size W w') := fun W h => pvalid s A l ca W (recs_next hRH.out h) hwf hla hs
  have hCo : Hid (∀ W, Below u.heap.size u W → Calls Tryd.prog 49 #[.slice P ps.length c, .func (.func 50) #[] #[]] W fun e w' => e = .returned (.bool (!(allB ps))) ∧ W = w') := fun W h => pcontains ps P c W (recs_next hPH.out h) hl
  have hno : Hid (¬ okAll f r ps s l a → (if alB f r ps s l a then (0 : Int) else 2) = 2) := fun h => by rw [alB_no h]; rfl
  have hyes : Hid (okAll f r ps s l a → (if alB f r ps s l a then (0 : Int) else 2) = 0) := fun h => by rw [alB_yes h]; rfl
  obtain ⟨E, hE⟩ : ∃ E : Int, (if alB f r ps s l a then (0 : Int) else 2) = E := ⟨_, rfl⟩
  rw [hE] at hno hyes ⊢
  clear hE hPH hRH hwf
  go_enter Tryd.func28, Tryd.ntmps28
  go_upto_region 1 with fail
  generalize w.heap.size = B0 at hX hF ⊢
  simp only [hu] at *
  clear hu
  obtain ⟨x0, x1, x2, _⟩ := hX.out
  obtain ⟨f0, f1, _⟩ := hF.out
  have hB1 : Hid (Below u.heap.size u u) := Below.refl _ _
  cases k1 : SQ.szB f r
  · have hfin := Lib.hid (hno.out fun h => by
      have h1 := SQ.szB_yes h.1.1.1 h.1.1.2 h.1.2.1.1 h.1.2.1.2
      rw [h1] at k1
      exact Bool.noConfusion k1)
    have hC : Hid (∀ W, Calls Tryd.prog 47 #[.agg #[.int .i64 f, .int .i64 r]] W fun e w' => e = .returned (.tuple #[.int .i64 0, .int .i64 2]) ∧ Below W.heap.size W w') := fun W => SQ.pcount_no f r W k1
    clear k1 hno hyes hVl hCo
    go_wp2_with fail
    go_at_call 47
    refine (hC.out _).mono ?_
    rintro e w2 ⟨rfl, hb2⟩
    have hB2 := Lib.hid (hB1.out.trans (hb2.mono hB1.out.size))
    clear hb2
    clear x0 x1 x2 f0 f1
    obtain ⟨x0, x1, x2, _⟩ := hX.out.next hB2.out
    obtain ⟨f0, f1, _⟩ := hF.out.next hB2.out
    go_wp2_with fail
    go_ret
    exact ⟨ri hfin.out.symm, hb1.out.trans (hB2.out.mono hb1.out.size)⟩
  have hC : Hid (∀ W, Calls Tryd.prog 47 #[.agg #[.int .i64 f, .int .i64 r]] W fun e w' => e = .returned (.tuple #[.int .i64 (f * r), .int .i64 0]) ∧ Below W.heap.size W w') := fun W => SQ.pcount_yes f r W k1
  have hQ : Hid (∀ W, Calls Tryd.prog 48 #[.agg #[.int .i64 f, .int .i64 r], .int .i64 a] W fun e w' => e = .returned (.bool (SQ.sqB f r a)) ∧ Below W.heap.size W w') := fun W => SQ.pvalidsq f r a W
  have hsq := Lib.hid (SQ.sqB_in (a := a) k1)
  have hsz := Lib.hid (SQ.szB_out k1)
  obtain ⟨N, hN⟩ : ∃ N, f * r = N := ⟨_, rfl⟩
  rw [hN] at hC hsq
  have hNH := Lib.hid hN
  clear k1 hN
  by_cases k2 : (ps.length : Int) = N
  rotate_left
  · have hfin := Lib.hid (hno.out fun h => k2 (h.1.2.2.1.trans hNH.out))
    have q2 : ((ps.length : Int) != N) = true := by rw [bne_iff_ne]; exact k2
    clear k2 hno hyes hVl hCo hQ
    go_wp2_with fail
    go_at_call 47
    refine (hC.out _).mono ?_
    rintro e w2 ⟨rfl, hb2⟩
    have hB2 := Lib.hid (hB1.out.trans (hb2.mono hB1.out.size))
    clear hb2
    clear x0 x1 x2 f0 f1
    obtain ⟨x0, x1, x2, _⟩ := hX.out.next hB2.out
    obtain ⟨f0, f1, _⟩ := hF.out.next hB2.out
    go_wp2_with fail
    go_ret
    exact ⟨ri hfin.out.symm, hb1.out.trans (hB2.out.mono hb1.out.size)⟩
  have q2 : ((ps.length : Int) != N) = false := by rw [bne_eq_false_iff_eq]; exact k2
  cases k3 : SQ.sqB f r a
  · have hfin := Lib.hid (hno.out fun h => by
      have h1 := hsq.out
      rw [k3] at h1
      have h2 := of_decide_eq_false h1.symm
      have h3 := h.2.2
      omega)
    rw [k3] at hQ
    clear k3 k2 hno hyes hVl hCo
    go_wp2_with fail
    go_at_call 47
    refine (hC.out _).mono ?_
    rintro e w2 ⟨rfl, hb2⟩
    have hB2 := Lib.hid (hB1.out.trans (hb2.mono hB1.out.size))
    clear hb2
    clear x0 x1 x2 f0 f1
    obtain ⟨x0, x1, x2, _⟩ := hX.out.next hB2.out
    obtain ⟨f0, f1, _⟩ := hF.out.next hB2.out
    go_wp2_with fail
    go_at_call 48
    refine (hQ.out _).mono ?_
    rintro e w3 ⟨rfl, hb3⟩
    have hB3 := Lib.hid (hB2.out.trans (hb3.mono hB2.out.size))
    clear hb3
    clear x0 x1 x2 f0 f1
    obtain ⟨x0, x1, x2, _⟩ := hX.out.next hB3.out
    obtain ⟨f0, f1, _⟩ := hF.out.next hB3.out
    go_wp2_with fail
    go_ret
    exact ⟨ri hfin.out.symm, hb1.out.trans (hB3.out.mono hb1.out.size)⟩
  have ha : Hid (0 ≤ a ∧ a < (ps.length : Int)) := by
    have h1 := hsq.out
    rw [k3] at h1
    have h2 := of_decide_eq_true h1.symm
    show _ ∧ _
    omega
  rw [k3] at hQ
  have k2H : Hid ((ps.length : Int) = f * r) := k2.trans hNH.out.symm
  clear k3 k2
  by_cases k4 : okFy s l
  rotate_left
  · have hfin := Lib.hid (hno.out fun h => k4 h.2.1)
    rw [fyB_no k4] at hVl
    clear k4 hno hyes hCo
    go_wp2_with fail
    go_at_call 47
    refine (hC.out _).mono ?_
    rintro e w2 ⟨rfl, hb2⟩
    have hB2 := Lib.hid (hB1.out.trans (hb2.mono hB1.out.size))
    clear hb2
    clear x0 x1 x2 f0 f1
    obtain ⟨x0, x1, x2, _⟩ := hX.out.next hB2.out
    obtain ⟨f0, f1, _⟩ := hF.out.next hB2.out
    go_wp2_with fail
    go_at_call 48
    refine (hQ.out _).mono ?_
    rintro e w3 ⟨rfl, hb3⟩
    have hB3 := Lib.hid (hB2.out.trans (hb3.mono hB2.out.size))
    clear hb3
    clear x0 x1 x2 f0 f1
    obtain ⟨x0, x1, x2, _⟩ := hX.out.next hB3.out
    obtain ⟨f0, f1, _⟩ := hF.out.next hB3.out
    go_wp2_with fail
    go_at_call 34
    refine (hVl.out _ hB3.out).mono ?_
    rintro e w4 ⟨rfl, hb4⟩
    have hB4 := Lib.hid (hB3.out.trans (hb4.mono hB3.out.size))
    clear hb4
    clear x0 x1 x2 f0 f1
    obtain ⟨x0, x1, x2, _⟩ := hX.out.next hB4.out
    obtain ⟨f0, f1, _⟩ := hF.out.next hB4.out
    go_wp2_with fail
    go_ret
    exact ⟨ri hfin.out.symm, hb1.out.trans (hB4.out.mono hb1.out.size)⟩
  rw [fyB_yes k4] at hVl
  have k4H := Lib.hid k4
  clear k4
  cases k5 : allB ps
  · have hfin := Lib.hid (hno.out fun h => (of_decide_eq_false k5) h.1.2.2.2)
    rw [k5] at hCo
    clear k5 hno hyes k4H
    go_wp2_with fail
    go_at_call 47
    refine (hC.out _).mono ?_
    rintro e w2 ⟨rfl, hb2⟩
    have hB2 := Lib.hid (hB1.out.trans (hb2.mono hB1.out.size))
    clear hb2
    clear x0 x1 x2 f0 f1
    obtain ⟨x0, x1, x2, _⟩ := hX.out.next hB2.out
    obtain ⟨f0, f1, _⟩ := hF.out.next hB2.out
    go_wp2_with fail
    go_at_call 48
    refine (hQ.out _).mono ?_
    rintro e w3 ⟨rfl, hb3⟩
    have hB3 := Lib.hid (hB2.out.trans (hb3.mono hB2.out.size))
    clear hb3
    clear x0 x1 x2 f0 f1
    obtain ⟨x0, x1, x2, _⟩ := hX.out.next hB3.out
    obtain ⟨f0, f1, _⟩ := hF.out.next hB3.out
    go_wp2_with fail
    go_at_call 34
    refine (hVl.out _ hB3.out).mono ?_
    rintro e w4 ⟨rfl, hb4⟩
    have hB4 := Lib.hid (hB3.out.trans (hb4.mono hB3.out.size))
    clear hb4
    clear x0 x1 x2 f0 f1
    obtain ⟨x0, x1, x2, _⟩ := hX.out.next hB4.out
    obtain ⟨f0, f1, _⟩ := hF.out.next hB4.out
    go_wp2_with fail
    go_at_call 49
    refine (hCo.out _ hB4.out).mono ?_
    rintro e w5 ⟨rfl, rfl⟩
    go_wp2_with fail
    go_ret
    exact ⟨ri hfin.out.symm, hb1.out.trans (hB4.out.mono hb1.out.size)⟩
  · have hfin := Lib.hid (hyes.out (by
      obtain ⟨s0, s1, s2, s3⟩ := hsz.out
      exact ⟨⟨⟨s0, s1⟩, ⟨s2, s3⟩, k2H.out, of_decide_eq_true k5⟩, k4H.out, ha.out⟩))
    rw [k5] at hCo
    clear k5 hno hyes k4H
    go_wp2_with fail
    go_at_call 47
    refine (hC.out _).mono ?_
    rintro e w2 ⟨rfl, hb2⟩
    have hB2 := Lib.hid (hB1.out.trans (hb2.mono hB1.out.size))
    clear hb2
    clear x0 x1 x2 f0 f1
    obtain ⟨x0, x1, x2, _⟩ := hX.out.next hB2.out
    obtain ⟨f0, f1, _⟩ := hF.out.next hB2.out
    go_wp2_with fail
    go_at_call 48
    refine (hQ.out _).mono ?_
    rintro e w3 ⟨rfl, hb3⟩
    have hB3 := Lib.hid (hB2.out.trans (hb3.mono hB2.out.size))
    clear hb3
    clear x0 x1 x2 f0 f1
    obtain ⟨x0, x1, x2, _⟩ := hX.out.next hB3.out
    obtain ⟨f0, f1, _⟩ := hF.out.next hB3.out
    go_wp2_with fail
    go_at_call 34
    refine (hVl.out _ hB3.out).mono ?_
    rintro e w4 ⟨rfl, hb4⟩
    have hB4 := Lib.hid (hB3.out.trans (hb4.mono hB3.out.size))
    clear hb4
    clear x0 x1 x2 f0 f1
    obtain ⟨x0, x1, x2, _⟩ := hX.out.next hB4.out
    obtain ⟨f0, f1, _⟩ := hF.out.next hB4.out
    go_wp2_with fail
    go_at_call 49
    refine (hCo.out _ hB4.out).mono ?_
    rintro e w5 ⟨rfl, rfl⟩
    go_wp2_with fail
    go_ret
    exact ⟨ri hfin.out.symm, hb1.out.trans (hB4.out.mono hb1.out.size)⟩
end Go.Proofs.YtbcdimklblpdnaaDoor
