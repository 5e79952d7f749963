/- Layer 27: the laws on steps, usual pieces, texts, valid pieces. -/
import Derived.Test.YtbcdimklblpdnaaGreatDoorZp
import Derived.Test.YtbcdimklblpdnaaGreatDoorZFr
namespace Go.Proofs.YtbcdimklblpdnaaGreatDoor
open Go Go.RowKit
set_option linter.unusedSimpArgs false
set_option linter.unusedVariables false
theorem knownF {w : World} (hE : EnvF w) : Calls Tryz.prog 12 #[] w fun e w' => e = .returned (.bool true) ∧ Below w.heap.size w w' := by
  obtain ⟨m0, hm⟩ := hE.m
  exact known_27 w m0 hm hE.k hE.g
theorem eqFy_refl (s : ByteArray) (l : List At) : eqFy s l s l = true := by unfold eqFy; simp
/-- two pieces with errors, side by side -/
structure PcE (R : Option (List UInt8 × List At)) (er : Int) (nm : List UInt8) (A : Option Addr) (l : List At) (c : Nat) (k : Int) (w : World) : Prop where
  no : R = none → nm = [] ∧ l = [] ∧ k = er
  yes : ∀ n2 l2, R = some (n2, l2) → nm = n2 ∧ l = l2 ∧ k = 0
  len : l.length ≤ 100000
  recs : RecAt aEnc 6 w w.heap.size A l
theorem pce_of {R : Option (List UInt8 × List At)} {er : Int} {e : Ending} {w' : World} (h1 : R = none → e = .returned (.tuple #[.agg #[.string ⟨#[]⟩, .slice none 0 0], .int .i64 er])) (h2 : ∀ nm l, R = some (nm, l) → l.length ≤ 8 ∧ ∃ (A : Option Addr) (c : Nat), e = .returned (.tuple #[.agg #[.string (bsB nm), .slice A l.length c], .int .i64 0]) ∧ RecAt aEnc 6 w' w'.heap.size A l) :
    ∃ (nm : List UInt8) (A : Option Addr) (l : List At) (c : Nat) (k : Int), e = .returned (.tuple #[.agg #[.string (bsB nm), .slice A l.length c], .int .i64 k]) ∧ PcE R er nm A l c k w' := by
  cases R with
  | none => exact ⟨[], none, [], 0, er, h1 rfl, fun _ => ⟨rfl, rfl, rfl⟩, (fun _ _ h => by cases h), by simp, fun h => absurd h (by simp)⟩
  | some p =>
    obtain ⟨nm, l⟩ := p
    obtain ⟨hl, A, c, he, hR⟩ := h2 nm l rfl
    exact ⟨nm, A, l, c, 0, he, (fun h => by cases h), (fun _ _ h => by cases h; exact ⟨rfl, rfl, rfl⟩), by omega, hR⟩
theorem pce_same {R : Option (List UInt8 × List At)} {er : Int} {nm nm2 : List UInt8} {A A2 : Option Addr} {l l2 : List At} {c c2 : Nat} {k k2 : Int} {w w2 : World} (h : PcE R er nm A l c k w) (h2 : PcE R er nm2 A2 l2 c2 k2 w2) : nm2 = nm ∧ l2 = l ∧ k2 = k := by
  cases R with
  | none =>
    obtain ⟨e1, e2, e3⟩ := h.no rfl
    obtain ⟨f1, f2, f3⟩ := h2.no rfl
    rw [e1, e2, e3, f1, f2, f3]
    exact ⟨rfl, rfl, rfl⟩
  | some p =>
    obtain ⟨n, m⟩ := p
    obtain ⟨e1, e2, e3⟩ := h.yes n m rfl
    obtain ⟨f1, f2, f3⟩ := h2.yes n m rfl
    rw [e1, e2, e3, f1, f2, f3]
    exact ⟨rfl, rfl, rfl⟩
theorem stepsE_le (x : At) (b : Bool) : (stepsE x b).length ≤ 225 := by
  unfold stepsE
  split
  · exact stepsL_le x b
  · simp
set_option maxRecDepth 100000 in
set_option maxHeartbeats 1000000 in
theorem law_steps (x : At) (b : Bool) (w : World) (hE : EnvF w) : Calls Tryz.prog 3 #[aV x, .bool b] w fun e w' => e = .returned (.bool true) ∧ Below w.heap.size w w' := by
  have hX := Lib.hid (KA.new w x)
  have hb1 : Hid (Below w.heap.size w (w.alloc (.cells #[.int .i64 x.kind, .int .i64 x.short, .int .i64 x.long, .int .i64 x.most, .int .i64 x.mode, .int .i64 x.way] 26))) := (Below.refl _ _).alloc (Nat.le_refl _) _
  have hEH := Lib.hid (hE.next hb1.out)
  have hP := Lib.hid (fun W => pStepsOf x b W)
  have hR := Lib.hid (fun W => rstepsof x b W)
  have hle := stepsE_le x b
  obtain ⟨L, hL⟩ : ∃ L, stepsE x b = L := ⟨_, rfl⟩
  obtain ⟨K, hK⟩ : ∃ K, errE x = K := ⟨_, rfl⟩
  rw [hL, hK] at hP hR
  rw [hL] at hle
  clear hE hL hK
  go_enter Tryz.func3, Tryz.ntmps3
  go_upto_region 1 with fail
  generalize w.heap.size = B0 at hX ⊢
  generalize w.alloc (.cells #[.int .i64 x.kind, .int .i64 x.short, .int .i64 x.long, .int .i64 x.most, .int .i64 x.mode, .int .i64 x.way] 26) = u at *
  obtain ⟨g0, g1, g2, g3, g4, g5, _⟩ := hX.out
  go_wp2_with fail
  go_at_call 9
  refine (hP.out _).mono ?_
  rintro e w2 h
  obtain ⟨A, c, rfl, hRa⟩ := h.out
  have hb2 := Lib.hid h.below
  replace hRa := Lib.hid hRa
  clear h g0 g1 g2 g3 g4 g5
  obtain ⟨g0, g1, g2, g3, g4, g5, _⟩ := hX.out.next hb2.out
  go_wp2_with fail
  go_at_call 10
  refine (hR.out _).mono ?_
  rintro e w3 h
  obtain ⟨A2, c2, rfl, hRb⟩ := h.out
  have hb3 : Hid (Below u.heap.size u w3) := hb2.out.trans (h.below.mono hb2.out.size)
  have hsm := Lib.hid (rsame A A2 c c2 L L w3 (recs_next hRa.out h.below) hRb (by omega) (by omega))
  rw [show decide (L = L) = true from decide_eq_true rfl] at hsm
  clear h g0 g1 g2 g3 g4 g5 hRa hRb
  have hkn : Hid (∀ W, Below u.heap.size u W → Calls Tryz.prog 12 #[] W fun e w' => e = .returned (.bool true) ∧ Below W.heap.size W w') := fun W h => knownF (hEH.out.next h)
  go_wp2_with (first
    | (go_at_call 11; refine hsm.out.mono ?_; rintro e w4 ⟨rfl, hb⟩; have hb4 : Hid (Below u.heap.size u w4) := hb3.out.trans (hb.mono hb3.out.size); clear hb)
    | (go_at_call 12; refine (hkn.out _ hb4.out).mono ?_; rintro e w5 ⟨rfl, hb⟩; have hb5 : Hid (Below u.heap.size u w5) := hb4.out.trans (hb.mono hb4.out.size); clear hb))
  go_ret
  exact ⟨by first | rfl | simp, hb1.out.trans (hb5.out.mono hb1.out.size)⟩
def usR (k : Int) : Option (List UInt8 × List At) := if 2 ≤ k ∧ k ≤ 6 then some (uNm k, uAt k) else none
theorem us_len (k : Int) : (uAt k).length ≤ 8 := by
  unfold uAt
  repeat' split
  all_goals decide
theorem pusR (k : Int) (w : World) (hE : EnvF w) : Calls Tryz.prog 19 #[.int .i8 k] w fun e w' => (∃ (nm : List UInt8) (A : Option Addr) (l : List At) (c : Nat) (z : Int), e = .returned (.tuple #[.agg #[.string (bsB nm), .slice A l.length c], .int .i64 z]) ∧ PcE (usR k) 2 nm A l c z w') ∧ Below w.heap.size w w' := by
  obtain ⟨m0, hm⟩ := hE.m
  by_cases h : 2 ≤ k ∧ k ≤ 6
  · refine (pusual k w m0 hm hE.k hE.g h.1 h.2).mono ?_
    rintro e w' hp
    have hr : usR k = some (uNm k, uAt k) := if_pos h
    exact ⟨pce_of (fun hn => by rw [hr] at hn; cases hn) (fun nm l hs => by rw [hr] at hs; cases hs; exact ⟨us_len k, hp.yes _ _ rfl⟩), hp.below⟩
  · refine (pusual_no k w (by omega)).mono ?_
    rintro e w' ⟨he, hb⟩
    have hr : usR k = none := if_neg h
    exact ⟨pce_of (fun _ => he) (fun nm l hs => by rw [hr] at hs; cases hs), hb⟩
theorem rusR (k : Int) (w : World) : Calls Tryz.prog 20 #[.int .i64 k] w fun e w' => (∃ (nm : List UInt8) (A : Option Addr) (l : List At) (c : Nat) (z : Int), e = .returned (.tuple #[.agg #[.string (bsB nm), .slice A l.length c], .int .i64 z]) ∧ PcE (usR k) 2 nm A l c z w') ∧ Below w.heap.size w w' := by
  by_cases h : 2 ≤ k ∧ k ≤ 6
  · refine (rusual k w h.1 h.2).mono ?_
    rintro e w' hp
    have hr : usR k = some (uNm k, uAt k) := if_pos h
    exact ⟨pce_of (fun hn => by rw [hr] at hn; cases hn) (fun nm l hs => by rw [hr] at hs; cases hs; exact ⟨us_len k, hp.yes _ _ rfl⟩), hp.below⟩
  · refine (rusual_no k w (by omega)).mono ?_
    rintro e w' ⟨he, hb⟩
    have hr : usR k = none := if_neg h
    exact ⟨pce_of (fun _ => he) (fun nm l hs => by rw [hr] at hs; cases hs), hb⟩
set_option maxRecDepth 100000 in
set_option maxHeartbeats 1000000 in
theorem law_usuals (k : Int) (w : World) (hE : EnvF w) (hk1 : -128 ≤ k) (hk2 : k ≤ 127) : Calls Tryz.prog 5 #[.int .i8 k] w fun e w' => e = .returned (.bool true) ∧ Below w.heap.size w w' := by
  have hEH := Lib.hid hE
  have hP := Lib.hid (pusR k w hE)
  have hR := Lib.hid (fun W => rusR k W)
  have hw : IntKind.i64.wrap k = k := IntWalk.i64_in _ (by omega)
  clear hE
  go_enter Tryz.func5, Tryz.ntmps5
  go_wp2_with fail
  go_at_call 19
  refine hP.out.mono ?_
  rintro e w1 ⟨⟨nm, A, l, c, z, rfl, hPc⟩, hb1⟩
  replace hPc := Lib.hid hPc
  replace hb1 := Lib.hid hb1
  have hba : Hid (Below w1.heap.size w1 (w1.alloc (.cells #[.string (bsB nm), .slice A l.length c] 43))) := (Below.refl _ _).alloc (Nat.le_refl _) _
  have hF := Lib.hid (B2.new w1 (.string (bsB nm)) (.slice A l.length c) 43)
  have hb2 : Hid (Below w.heap.size w (w1.alloc (.cells #[.string (bsB nm), .slice A l.length c] 43))) := hb1.out.trans (hba.out.mono hb1.out.size)
  have hRa := Lib.hid (recs_next hPc.out.recs hba.out)
  clear hP hba hb1
  go_upto_region 2 with fail
  generalize w1.heap.size = B3 at hF ⊢
  generalize w1.alloc (.cells #[.string (bsB nm), .slice A l.length c] 43) = w2 at *
  go_wp2_with fail
  go_at_call 20
  refine (hR.out _).mono ?_
  rintro e w3 ⟨⟨nm2, A2, l2, c2, z2, rfl, hPc2⟩, hb3⟩
  obtain ⟨rfl, rfl, rfl⟩ := pce_same hPc.out hPc2
  replace hb3 := Lib.hid hb3
  have hba : Hid (Below w3.heap.size w3 (w3.alloc (.cells #[.string (bsB nm2), .slice A2 l2.length c2] 43))) := (Below.refl _ _).alloc (Nat.le_refl _) _
  have hG := Lib.hid (B2.new w3 (.string (bsB nm2)) (.slice A2 l2.length c2) 43)
  have hF2 := Lib.hid ((hF.out.next hb3.out).next hba.out)
  have hRb := Lib.hid (recs_next (recs_next hRa.out hb3.out) hba.out)
  have hRc := Lib.hid (recs_next hPc2.recs hba.out)
  have hb4 : Hid (Below w.heap.size w (w3.alloc (.cells #[.string (bsB nm2), .slice A2 l2.length c2] 43))) := (hb2.out.trans (hb3.out.mono hb2.out.size)).trans (hba.out.mono (hb2.out.trans (hb3.out.mono hb2.out.size)).size)
  have hll := hPc2.len
  clear hPc2 hPc hF hRa hba hb3 hR hb2
  go_upto_region 3 with fail
  generalize w3.heap.size = B5 at hG ⊢
  generalize w3.alloc (.cells #[.string (bsB nm2), .slice A2 l2.length c2] 43) = w4 at *
  obtain ⟨f0, f1, _, _, _⟩ := hF2.out
  obtain ⟨f2, f3, _, _, _⟩ := hG.out
  have hq := Lib.hid (requal (bsB nm2) (bsB nm2) A A2 l2 l2 c c2 w4 hRb.out hRc.out (by omega) (by omega))
  rw [eqFy_refl] at hq
  go_wp2_with (first
    | (go_at_call 21; refine hq.out.mono ?_; rintro e w5 ⟨rfl, hb⟩; have hb5 : Hid (Below w.heap.size w w5) := hb4.out.trans (hb.mono hb4.out.size); clear hb)
    | (go_at_call 12; refine (knownF (hEH.out.next hb5.out)).mono ?_; rintro e w6 ⟨rfl, hb⟩; have hb6 : Hid (Below w.heap.size w w6) := hb5.out.trans (hb.mono hb5.out.size); clear hb))
  go_ret
  exact ⟨by first | rfl | simp, hb6.out⟩
def smB (s : ByteArray) (l : List At) : Bool := decide ((l.length : Int) ≤ 10) && decide ((s.size : Int) ≤ 100)
set_option maxRecDepth 100000 in
set_option maxHeartbeats 1000000 in
theorem rsmall (s : ByteArray) (A : Option Addr) (l : List At) (c : Nat) (w : World) (hl : l.length ≤ maxLen) (hs : s.size ≤ maxLen) : Calls Tryz.prog 13 #[.agg #[.string s, .slice A l.length c]] w fun e w' => e = .returned (.bool (smB s l)) ∧ Below w.heap.size w w' := by
  unfold maxLen at hl hs
  have hF := Lib.hid (KF.new w s A l.length c)
  have hb1 : Hid (Below w.heap.size w (w.alloc (.cells #[.string s, .slice A l.length c] 43))) := (Below.refl _ _).alloc (Nat.le_refl _) _
  have hV : Hid (smB s l = (decide ((l.length : Int) ≤ 10) && decide ((s.size : Int) ≤ 100))) := rfl
  go_enter Tryz.func13, Tryz.ntmps13
  go_upto_region 1 with fail
  generalize w.heap.size = B0 at hF ⊢
  generalize w.alloc (.cells #[.string s, .slice A l.length c] 43) = u at *
  obtain ⟨f0, f1, _⟩ := hF.out
  by_cases h1 : (l.length : Int) ≤ 10
  · have q1 : ((l.length : Int) ≤ 10) = True := eq_true h1
    have hV2 : Hid (smB s l = decide ((s.size : Int) ≤ 100)) := by show _ = _; rw [hV.out, decide_eq_true h1, Bool.true_and]
    clear h1
    go_wp2_with fail
    go_ret
    exact ⟨rb hV2.out.symm, hb1.out⟩
  · have q1 : ((l.length : Int) ≤ 10) = False := eq_false h1
    have hV2 : Hid (smB s l = false) := by show _ = _; rw [hV.out, decide_eq_false h1, Bool.false_and]
    clear h1
    go_wp2_with fail
    go_ret
    exact ⟨rb hV2.out.symm, hb1.out⟩
theorem smB_no {s : ByteArray} {l : List At} (h : smB s l = true) : l.length ≤ 10 ∧ s.size ≤ 100 := by
  unfold smB at h
  obtain ⟨h1, h2⟩ := Bool.and_eq_true_iff.1 h
  have h1 := of_decide_eq_true h1
  have h2 := of_decide_eq_true h2
  omega
set_option maxRecDepth 100000 in
set_option maxHeartbeats 1000000 in
theorem law_texts (s : ByteArray) (A : Option Addr) (l : List At) (c : Nat) (w : World) (hE : EnvF w) (hR : RecAt aEnc 6 w w.heap.size A l) (hwf : ∀ x ∈ l, wfA x) (hl : l.length ≤ maxLen) (hs : s.size ≤ maxLen) : Calls Tryz.prog 6 #[.agg #[.string s, .slice A l.length c]] w fun e w' => e = .returned (.bool true) ∧ Below w.heap.size w w' := by
  have hF := Lib.hid (KF.new w s A l.length c)
  have hb1 : Hid (Below w.heap.size w (w.alloc (.cells #[.string s, .slice A l.length c] 43))) := (Below.refl _ _).alloc (Nat.le_refl _) _
  have hEH := Lib.hid (hE.next hb1.out)
  have hRH := Lib.hid (recs_next hR hb1.out)
  have hsm := Lib.hid (fun W => rsmall s A l c W hl hs)
  have hwfH := Lib.hid hwf
  clear hE hR hwf
  go_enter Tryz.func6, Tryz.ntmps6
  go_upto_region 1 with fail
  generalize w.heap.size = B0 at hF ⊢
  generalize w.alloc (.cells #[.string s, .slice A l.length c] 43) = u at *
  have hkn : Hid (∀ W, Below u.heap.size u W → Calls Tryz.prog 12 #[] W fun e w' => e = .returned (.bool true) ∧ Below u.heap.size u w') := fun W h => (knownF (hEH.out.next h)).mono (by rintro e w' ⟨h1, h2⟩; exact ⟨h1, h.trans (h2.mono h.size)⟩)
  obtain ⟨f0, f1, _⟩ := hF.out
  cases hsb : smB s l with
  | false =>
    rw [hsb] at hsm
    clear hsb
    go_wp2_with (first
      | (go_at_call 13; refine (hsm.out _).mono ?_; rintro e w2 ⟨rfl, hb2⟩; replace hb2 := Lib.hid hb2)
      | (go_at_call 12; refine (hkn.out _ hb2.out).mono ?_; rintro e w3 ⟨rfl, hb3⟩; replace hb3 := Lib.hid hb3))
    go_ret
    exact ⟨rfl, hb1.out.trans (hb3.out.mono hb1.out.size)⟩
  | true =>
    obtain ⟨hl10, hs100⟩ := smB_no hsb
    rw [hsb] at hsm
    clear hsb hl hs
    go_upto_region 3 with (go_at_call 13; refine (hsm.out _).mono ?_; rintro e w2 ⟨rfl, hb2⟩; replace hb2 := Lib.hid hb2)
    clear f0 f1 hsm
    have hE2 := hEH.out.next hb2.out
    obtain ⟨m0, hM2⟩ := hE2.m
    replace hM2 := Lib.hid hM2
    have hR2 := Lib.hid (recs_next hRH.out hb2.out)
    have hF2 := Lib.hid (hF.out.next hb2.out)
    obtain ⟨f0, f1, _⟩ := hF2.out
    obtain ⟨nm, rfl⟩ := bs_ex s
    by_cases hok : okFy (bsB nm) l
    rotate_left
    · have hT1 := Lib.hid (ptext_no (bsB nm) A l c w2 hR2.out hwfH.out (by omega) (by unfold maxLen; omega) hok)
      have hT2 := Lib.hid (fun W h => rtext_no (bsB nm) A l c W (recs_next hR2.out h) (by omega) (by unfold maxLen; omega) hok)
      clear hok
      go_upto_region 4 with (go_at_call 22; refine hT1.out.mono ?_; rintro e w3 ⟨rfl, hb3⟩; replace hb3 := Lib.hid hb3)
      clear f0 f1
      obtain ⟨f0, f1, _⟩ := hF2.out.next hb3.out
      go_wp2_with (first
        | (go_at_call 23; refine (hT2.out _ hb3.out).mono ?_; rintro e w4 ⟨rfl, hb⟩; have hb4 : Hid (Below u.heap.size u w4) := (hb2.out.trans (hb3.out.mono hb2.out.size)).trans (hb.mono (hb2.out.trans (hb3.out.mono hb2.out.size)).size); clear hb)
        | (go_at_call 12; refine (hkn.out _ hb4.out).mono ?_; rintro e w5 ⟨rfl, hb5⟩; replace hb5 := Lib.hid hb5))
      go_ret
      exact ⟨rfl, hb1.out.trans (hb5.out.mono hb1.out.size)⟩
    · have hT1 := Lib.hid (ptext_yes nm A l c w2 m0 hR2.out hok hM2.out)
      have hT2 := Lib.hid (fun W h => rtext_yes nm A l c W (recs_next hR2.out h) hok)
      have hpar : parR (txL nm l) = some (nm, l) := (parR_iff _ _ _).2 ⟨hok, rfl⟩
      have hlen : (txL nm l).length ≤ 10000 := by
        have h1 := plusK_len l l.length
        have h2 := (givV_len hok.2).2
        unfold txL
        simp only [List.length_append, List.length_cons, List.length_nil]
        omega
      obtain ⟨tx, htx⟩ : ∃ tx, txL nm l = tx := ⟨_, rfl⟩
      rw [htx] at hT1 hT2 hpar hlen
      have hPr := Lib.hid (fun W h => pparse_is (s := tx) (nm := nm) (l := l) W m0 h hlen hpar)
      clear hok htx hpar
      go_upto_region 4 with (go_at_call 22; refine hT1.out.mono ?_; rintro e w3 ⟨rfl, hb3⟩; replace hb3 := Lib.hid hb3)
      clear f0 f1
      obtain ⟨f0, f1, _⟩ := hF2.out.next hb3.out
      go_upto_region 9 with (go_at_call 23; refine (hT2.out _ hb3.out).mono ?_; rintro e w4 ⟨rfl, hb⟩; have hb4 : Hid (Below w2.heap.size w2 w4) := hb3.out.trans (hb.mono hb3.out.size); clear hb)
      have hM4 := Lib.hid (hM2.out.next hb4.out)
      clear f0 f1
      go_wp2_with fail
      go_at_call 24
      refine (hPr.out _ hM4.out).mono ?_
      rintro e w5 ⟨A5, c5, rfl, hR5, hb5⟩
      have hb25 : Hid (Below w2.heap.size w2 w5) := hb4.out.trans (hb5.mono hb4.out.size)
      have hba : Below w5.heap.size w5 (w5.alloc (.cells #[.string (bsB nm), .slice A5 l.length c5] 43)) := (Below.refl _ _).alloc (Nat.le_refl _) _
      have hb26 : Hid (Below w2.heap.size w2 (w5.alloc (.cells #[.string (bsB nm), .slice A5 l.length c5] 43))) := hb25.out.trans (hba.mono hb25.out.size)
      have hG := Lib.hid (B2.new w5 (.string (bsB nm)) (.slice A5 l.length c5) 43)
      have hR6 := Lib.hid (recs_next hR5 hba)
      clear hR5 hb5 hba hb25 hPr hT1 hT2 hM4 hb3 hb4
      go_upto_region 10 with fail
      generalize w5.heap.size = B7 at hG ⊢
      generalize w5.alloc (.cells #[.string (bsB nm), .slice A5 l.length c5] 43) = w6 at *
      have hq := Lib.hid (requal (bsB nm) (bsB nm) A A5 l l c c5 w6 (recs_next hR2.out hb26.out) hR6.out (by omega) (by omega))
      rw [eqFy_refl] at hq
      obtain ⟨f0, f1, _⟩ := hF2.out.next hb26.out
      obtain ⟨f2, f3, _, _, _⟩ := hG.out
      have hb6 : Hid (Below u.heap.size u w6) := hb2.out.trans (hb26.out.mono hb2.out.size)
      go_wp2_with (first
        | (go_at_call 21; refine hq.out.mono ?_; rintro e w7 ⟨rfl, hb⟩; have hb7 : Hid (Below u.heap.size u w7) := hb6.out.trans (hb.mono hb6.out.size); clear hb)
        | (go_at_call 12; refine (hkn.out _ hb7.out).mono ?_; rintro e w8 ⟨rfl, hb8⟩; replace hb8 := Lib.hid hb8))
      go_ret
      exact ⟨rfl, hb1.out.trans (hb8.out.mono hb1.out.size)⟩
set_option maxRecDepth 100000 in
set_option maxHeartbeats 1000000 in
theorem law_valids (s : ByteArray) (A : Option Addr) (l : List At) (c : Nat) (s' : ByteArray) (A' : Option Addr) (l' : List At) (c' : Nat) (w : World) (hE : EnvF w) (hR : RecAt aEnc 6 w w.heap.size A l) (hR' : RecAt aEnc 6 w w.heap.size A' l') (hwf : ∀ x ∈ l, wfA x) (hl : l.length ≤ maxLen) (hs : s.size ≤ maxLen) (hl' : l'.length ≤ maxLen) (hs' : s'.size ≤ maxLen) :
    Calls Tryz.prog 7 #[.agg #[.string s, .slice A l.length c], .agg #[.string s', .slice A' l'.length c']] w fun e w' => e = .returned (.bool true) ∧ Below w.heap.size w w' := by
  obtain ⟨hF0, hG0, hb0⟩ := KF.two w s s' A A' l.length l'.length c c'
  have hF := Lib.hid hF0
  have hG := Lib.hid hG0
  have hb1 := Lib.hid hb0
  have hEH := Lib.hid (hE.next hb0)
  have hRH := Lib.hid (recs_next hR hb0)
  have hRH' := Lib.hid (recs_next hR' hb0)
  have hsm := Lib.hid (fun W => rsmall s A l c W hl hs)
  have hsm' := Lib.hid (fun W => rsmall s' A' l' c' W hl' hs')
  have hwfH := Lib.hid hwf
  have hsz := Lib.hid (And.intro hs hs')
  clear hE hR hR' hwf hF0 hG0 hb0 hl hl' hs hs'
  go_enter Tryz.func7, Tryz.ntmps7
  go_upto_region 1 with fail
  obtain ⟨B0, hB0⟩ : ∃ B0, w.heap.size = B0 := ⟨_, rfl⟩
  rw [hB0] at hF hG
  simp only [hB0]
  have hB0H := Lib.hid hB0
  clear hB0
  generalize (w.alloc (.cells #[.string s, .slice A l.length c] 43)).alloc (.cells #[.string s', .slice A' l'.length c'] 43) = u at *
  have hkn : Hid (∀ W, Below u.heap.size u W → Calls Tryz.prog 12 #[] W fun e w' => e = .returned (.bool true) ∧ Below u.heap.size u w') := fun W h => (knownF (hEH.out.next h)).mono (by rintro e w' ⟨h1, h2⟩; exact ⟨h1, h.trans (h2.mono h.size)⟩)
  obtain ⟨f0, f1, _⟩ := hF.out
  obtain ⟨f2, f3, _⟩ := hG.out
  cases hsb : smB s l with
  | false =>
    rw [hsb] at hsm
    clear hsb
    go_wp2_with (first
      | (go_at_call 13; refine (hsm.out _).mono ?_; rintro e w2 ⟨rfl, hb2⟩; replace hb2 := Lib.hid hb2)
      | (go_at_call 12; refine (hkn.out _ hb2.out).mono ?_; rintro e w3 ⟨rfl, hb3⟩; replace hb3 := Lib.hid hb3))
    go_ret
    exact ⟨rfl, hb1.out.trans (hb3.out.mono hb1.out.size)⟩
  | true =>
  obtain ⟨hl10, hs100⟩ := smB_no hsb
  rw [hsb] at hsm
  clear hsb
  cases hsb : smB s' l' with
  | false =>
    rw [hsb] at hsm'
    clear hsb
    go_wp2_with fail
    go_at_call 13
    refine (hsm.out _).mono ?_
    rintro e w2 ⟨rfl, hb2⟩
    replace hb2 := Lib.hid hb2
    clear f0 f1 f2 f3
    obtain ⟨f2, f3, _⟩ := hG.out.next hb2.out
    go_wp2_with (first
      | (go_at_call 13; refine (hsm'.out _).mono ?_; rintro e w3 ⟨rfl, hb⟩; have hb3 : Hid (Below u.heap.size u w3) := hb2.out.trans (hb.mono hb2.out.size); clear hb)
      | (go_at_call 12; refine (hkn.out _ hb3.out).mono ?_; rintro e w4 ⟨rfl, hb4⟩; replace hb4 := Lib.hid hb4))
    go_ret
    exact ⟨rfl, hb1.out.trans (hb4.out.mono hb1.out.size)⟩
  | true =>
  obtain ⟨hl10', hs100'⟩ := smB_no hsb
  rw [hsb] at hsm'
  clear hsb
  go_wp2_with fail
  go_at_call 13
  refine (hsm.out _).mono ?_
  rintro e w2 ⟨rfl, hb2⟩
  replace hb2 := Lib.hid hb2
  clear f0 f1 f2 f3
  obtain ⟨f2, f3, _⟩ := hG.out.next hb2.out
  go_upto_region 3 with (go_at_call 13; refine (hsm'.out _).mono ?_; rintro e w3 ⟨rfl, hb⟩; have hb3 : Hid (Below u.heap.size u w3) := hb2.out.trans (hb.mono hb2.out.size); clear hb)
  clear f2 f3 hb2 hsm hsm'
  have hpv := Lib.hid (fun W h => pvalid s A l c W (recs_next hRH.out h) hwfH.out (by omega) hsz.out.1)
  have hrv := Lib.hid (fun W h => rvalid s A l c W (recs_next hRH.out h) (by omega) hsz.out.1)
  have hpe := Lib.hid (fun W h => pequal s s' A A' l l' c c' W (recs_next hRH.out h) (recs_next hRH'.out h) (by omega) (by omega))
  have hre := Lib.hid (fun W h => requal s s' A A' l l' c c' W (recs_next hRH.out h) (recs_next hRH'.out h) (by omega) (by omega))
  generalize fyB s l = V at hpv hrv
  generalize eqFy s l s' l' = Q at hpe hre
  have eV : (V == V) = true := beq_self_eq_true V
  have eQ : (Q == Q) = true := beq_self_eq_true Q
  have hS : Hid (∀ W, Below u.heap.size u W → W.cell? ⟨B0, 0, none⟩ = some (.string s) ∧ W.cell? ⟨B0, 1, none⟩ = some (.slice A l.length c) ∧ W.cell? ⟨B0 + 1, 0, none⟩ = some (.string s') ∧ W.cell? ⟨B0 + 1, 1, none⟩ = some (.slice A' l'.length c')) := fun W h => by
    have h1 := hF.out.next h
    have h2 := hG.out.next h
    exact ⟨h1.c0, h1.c1, h2.c0, h2.c1⟩
  refine wp_region_held_drew (S := fun W => W.cell? ⟨B0, 0, none⟩ = some (.string s) ∧ W.cell? ⟨B0, 1, none⟩ = some (.slice A l.length c) ∧ W.cell? ⟨B0 + 1, 0, none⟩ = some (.string s') ∧ W.cell? ⟨B0 + 1, 1, none⟩ = some (.slice A' l'.length c')) (by kernel_rfl) (hS.out _ hb3.out.drew) (fun hHeld => ?_)
  have hd3 : Hid (Below u.heap.size u w3.drew) := hb3.out.drew
  generalize w3.drew = v3 at hd3 hHeld ⊢
  refine wpAnyH_take (i := 0) (v := ?_) rfl (by kernel_rfl) (by kernel_rfl) (by kernel_rfl) (fun _ _ _ h => h) (Or.inl ⟨by rfl, ?_⟩) hHeld ?_
  rotate_left
  · intro W9 hSw; (try dsimp only at hSw); go_simp; (try with_reducible rfl)
  simp only [Act.put, List.getElem_toArray, List.getElem_cons_zero, List.getElem_cons_succ, List.setIfInBounds_toArray, List.set_cons_zero, List.set_cons_succ]
  refine wpAnyH_take (i := 2) (v := ?_) rfl (by kernel_rfl) (by kernel_rfl) (by kernel_rfl) (fun _ _ _ h => h) (Or.inl ⟨by rfl, ?_⟩) hHeld ?_
  rotate_left
  · intro W9 hSw; (try dsimp only at hSw); go_simp; (try with_reducible rfl)
  simp only [Act.put, List.getElem_toArray, List.getElem_cons_zero, List.getElem_cons_succ, List.setIfInBounds_toArray, List.set_cons_zero, List.set_cons_succ]
  refine wpAnyH_ready (rs := [1]) (by kernel_rfl) (by simp) ?_
  refine AllReadyH.cons rfl (fun K hK => ?_) AllReadyH.nil
  go_simp
  go_at_call 25
  refine (hpv.out _ hd3.out).mono ?_
  rintro e v4 ⟨rfl, hb⟩
  have hd4 : Hid (Below u.heap.size u v4) := hd3.out.trans (hb.mono hd3.out.size)
  clear hb
  refine hK.out _ _ (hS.out _ hd4.out) (fun hHeld2 => ?_)
  clear hK K hHeld
  have hHeld := hHeld2
  clear hHeld2
  refine wpAnyH_ready (rs := [3]) (by kernel_rfl) (by simp) ?_
  refine AllReadyH.cons rfl (fun K hK => ?_) AllReadyH.nil
  go_simp
  go_at_call 26
  refine (hrv.out _ hd4.out).mono ?_
  rintro e v5 ⟨rfl, hb⟩
  have hd5 : Hid (Below u.heap.size u v5) := hd4.out.trans (hb.mono hd4.out.size)
  clear hb
  refine hK.out _ _ (hS.out _ hd5.out) (fun hHeld2 => ?_)
  clear hK K hHeld
  have hHeld := hHeld2
  clear hHeld2
  refine wpAnyH_take (i := 4) (v := ?_) rfl (by kernel_rfl) (by kernel_rfl) (by kernel_rfl) (fun _ _ _ h => h) (Or.inl ⟨by rfl, ?_⟩) hHeld ?_
  rotate_left
  · intro W9 hSw; (try dsimp only at hSw); go_simp; (try with_reducible rfl)
  simp only [Act.put, List.getElem_toArray, List.getElem_cons_zero, List.getElem_cons_succ, List.setIfInBounds_toArray, List.set_cons_zero, List.set_cons_succ]
  refine wpAnyH_take (i := 5) (v := ?_) rfl (by kernel_rfl) (by kernel_rfl) (by kernel_rfl) (fun _ _ _ h => h) (Or.inl ⟨by rfl, ?_⟩) hHeld ?_
  rotate_left
  · intro W9 hSw; (try dsimp only at hSw); go_simp; (try with_reducible rfl)
  simp only [Act.put, List.getElem_toArray, List.getElem_cons_zero, List.getElem_cons_succ, List.setIfInBounds_toArray, List.set_cons_zero, List.set_cons_succ]
  refine wpAnyH_take (i := 6) (v := ?_) rfl (by kernel_rfl) (by kernel_rfl) (by kernel_rfl) (fun _ _ _ h => h) (Or.inl ⟨by rfl, ?_⟩) hHeld ?_
  rotate_left
  · intro W9 hSw; (try dsimp only at hSw); go_simp; (try with_reducible rfl)
  simp only [Act.put, List.getElem_toArray, List.getElem_cons_zero, List.getElem_cons_succ, List.setIfInBounds_toArray, List.set_cons_zero, List.set_cons_succ]
  refine wpAnyH_take (i := 7) (v := ?_) rfl (by kernel_rfl) (by kernel_rfl) (by kernel_rfl) (fun _ _ _ h => h) (Or.inl ⟨by rfl, ?_⟩) hHeld ?_
  rotate_left
  · intro W9 hSw; (try dsimp only at hSw); go_simp; (try with_reducible rfl)
  simp only [Act.put, List.getElem_toArray, List.getElem_cons_zero, List.getElem_cons_succ, List.setIfInBounds_toArray, List.set_cons_zero, List.set_cons_succ]
  refine wpAnyH_take (i := 9) (v := ?_) rfl (by kernel_rfl) (by kernel_rfl) (by kernel_rfl) (fun _ _ _ h => h) (Or.inl ⟨by rfl, ?_⟩) hHeld ?_
  rotate_left
  · intro W9 hSw; (try dsimp only at hSw); go_simp; (try with_reducible rfl)
  simp only [Act.put, List.getElem_toArray, List.getElem_cons_zero, List.getElem_cons_succ, List.setIfInBounds_toArray, List.set_cons_zero, List.set_cons_succ]
  refine wpAnyH_take (i := 10) (v := ?_) rfl (by kernel_rfl) (by kernel_rfl) (by kernel_rfl) (fun _ _ _ h => h) (Or.inl ⟨by rfl, ?_⟩) hHeld ?_
  rotate_left
  · intro W9 hSw; (try dsimp only at hSw); go_simp; (try with_reducible rfl)
  simp only [Act.put, List.getElem_toArray, List.getElem_cons_zero, List.getElem_cons_succ, List.setIfInBounds_toArray, List.set_cons_zero, List.set_cons_succ]
  refine wpAnyH_ready (rs := [8]) (by kernel_rfl) (by simp) ?_
  refine AllReadyH.cons rfl (fun K hK => ?_) AllReadyH.nil
  go_simp
  go_at_call 27
  refine (hpe.out _ hd5.out).mono ?_
  rintro e v6 ⟨rfl, hb⟩
  have hd6 : Hid (Below u.heap.size u v6) := hd5.out.trans (hb.mono hd5.out.size)
  clear hb
  refine hK.out _ _ (hS.out _ hd6.out) (fun hHeld2 => ?_)
  clear hK K hHeld
  have hHeld := hHeld2
  clear hHeld2
  refine wpAnyH_ready (rs := [11]) (by kernel_rfl) (by simp) ?_
  refine AllReadyH.cons rfl (fun K hK => ?_) AllReadyH.nil
  go_simp
  go_at_call 21
  refine (hre.out _ hd6.out).mono ?_
  rintro e v7 ⟨rfl, hb⟩
  have hd7 : Hid (Below u.heap.size u v7) := hd6.out.trans (hb.mono hd6.out.size)
  clear hb
  refine hK.out _ _ (hS.out _ hd7.out) (fun hHeld2 => ?_)
  clear hK K hHeld
  have hHeld := hHeld2
  clear hHeld2
  refine wpAnyH_take (i := 12) (v := ?_) rfl (by kernel_rfl) (by kernel_rfl) (by kernel_rfl) (fun _ _ _ h => h) (Or.inl ⟨by rfl, ?_⟩) hHeld ?_
  rotate_left
  · intro W9 hSw; (try dsimp only at hSw); go_simp; (try with_reducible rfl)
  simp only [Act.put, List.getElem_toArray, List.getElem_cons_zero, List.getElem_cons_succ, List.setIfInBounds_toArray, List.set_cons_zero, List.set_cons_succ]
  refine wpAnyH_take (i := 13) (v := ?_) rfl (by kernel_rfl) (by kernel_rfl) (by kernel_rfl) (fun _ _ _ h => h) (Or.inl ⟨by rfl, ?_⟩) hHeld ?_
  rotate_left
  · intro W9 hSw; (try dsimp only at hSw); go_simp; (try with_reducible rfl)
  simp only [Act.put, List.getElem_toArray, List.getElem_cons_zero, List.getElem_cons_succ, List.setIfInBounds_toArray, List.set_cons_zero, List.set_cons_succ]
  refine wpAnyH_take (i := 14) (v := ?_) rfl (by kernel_rfl) (by kernel_rfl) (by kernel_rfl) (fun _ _ _ h => h) (Or.inl ⟨by rfl, ?_⟩) hHeld ?_
  rotate_left
  · intro W9 hSw; (try dsimp only at hSw); go_simp; (try with_reducible rfl)
  simp only [Act.put, List.getElem_toArray, List.getElem_cons_zero, List.getElem_cons_succ, List.setIfInBounds_toArray, List.set_cons_zero, List.set_cons_succ]
  refine wpAnyH_ready (rs := [15]) (by kernel_rfl) (by simp) ?_
  refine AllReadyH.cons rfl (fun K hK => ?_) AllReadyH.nil
  go_simp
  go_at_call 12
  refine (hkn.out _ hd7.out).mono ?_
  rintro e v8 ⟨rfl, hb⟩
  have hd8 : Hid (Below u.heap.size u v8) := hb
  clear hb
  refine hK.out _ _ (hS.out _ hd8.out) (fun hHeld2 => ?_)
  clear hK K hHeld
  have hHeld := hHeld2
  clear hHeld2
  refine wpAnyH_take (i := 16) (v := ?_) rfl (by kernel_rfl) (by kernel_rfl) (by kernel_rfl) (fun _ _ _ h => h) (Or.inl ⟨by rfl, ?_⟩) hHeld ?_
  rotate_left
  · intro W9 hSw; (try dsimp only at hSw); go_simp; (try with_reducible rfl)
  simp only [Act.put, List.getElem_toArray, List.getElem_cons_zero, List.getElem_cons_succ, List.setIfInBounds_toArray, List.set_cons_zero, List.set_cons_succ]
  refine wpAnyH_take (i := 17) (v := ?_) rfl (by kernel_rfl) (by kernel_rfl) (by kernel_rfl) (fun _ _ _ h => h) (Or.inl ⟨by rfl, ?_⟩) hHeld ?_
  rotate_left
  · intro W9 hSw; (try dsimp only at hSw); go_simp; (try with_reducible rfl)
  simp only [Act.put, List.getElem_toArray, List.getElem_cons_zero, List.getElem_cons_succ, List.setIfInBounds_toArray, List.set_cons_zero, List.set_cons_succ]
  refine wpAnyH_done (by kernel_rfl) ?_ _
  go_wp2_with fail
  go_ret
  exact ⟨by first | rfl | simp, hb1.out.trans (hd8.out.mono hb1.out.size)⟩
end Go.Proofs.YtbcdimklblpdnaaGreatDoor
