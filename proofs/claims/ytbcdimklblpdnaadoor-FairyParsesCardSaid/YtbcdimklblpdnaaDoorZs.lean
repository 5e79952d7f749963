/- Layer 27: the law on Parse. -/
import Derived.Test.YtbcdimklblpdnaaDoorZp
import Derived.Test.YtbcdimklblpdnaaDoorZFr
namespace Go.Proofs.YtbcdimklblpdnaaDoor
open Go Go.RowKit
set_option linter.unusedSimpArgs false
set_option linter.unusedVariables false
theorem knownF {w : World} (hE : EnvF w) : Calls Tryd.prog 4 #[] w fun e w' => e = .returned (.bool true) ∧ Below w.heap.size w w' := by
  obtain ⟨m0, hm⟩ := hE.m
  exact known_27 w m0 hm hE.k hE.g
theorem eqFy_refl (s : ByteArray) (l : List At) : eqFy s l s l = true := by unfold eqFy; simp
/-- two pieces with errors, side by side -/
structure PcE (R : Option (List UInt8 × List At)) (er : Int) (nm : List UInt8) (A : Option Addr) (l : List At) (c : Nat) (k : Int) (w : World) : Prop where
  no : R = none → nm = [] ∧ l = [] ∧ k = er
  yes : ∀ n2 l2, R = some (n2, l2) → nm = n2 ∧ l = l2 ∧ k = 0
  len : l.length ≤ 100000
  recs : RecAt aEnc 6 w w.heap.size A l
theorem pce_of {R : Option (List UInt8 × List At)} {er : Int} {e : Ending} {w' : World} (h1 : R = none → e = .returned (.tuple #[.agg #[.string ⟨#[]⟩, .slice none 0 0], .int .i64 er])) (h2 : ∀ nm l, R = some (nm, l) → l.length ≤ 8 ∧ ∃ (A : Option Addr) (c : Nat), e = .returned (.tuple #[.agg #[.string (bsB nm), .slice A l.length c], .int .i64 0]) ∧ RecAt aEnc 6 w' w'.heap.size A l) :
    ∃ (nm : List UInt8) (A : Option Addr) (l : List At) (c : Nat) (k : Int), e = .returned (.tuple #[.agg #[.string (bsB nm), .slice A l.length c], .int .i64 k]) ∧ PcE R er nm A l c k w' := by
  cases R with
  | none => exact ⟨[], none, [], 0, er, h1 rfl, fun _ => ⟨rfl, rfl, rfl⟩, (fun _ _ h => by cases h), by simp, fun h => absurd h (by simp)⟩
  | some p =>
    obtain ⟨nm, l⟩ := p
    obtain ⟨hl, A, c, he, hR⟩ := h2 nm l rfl
    exact ⟨nm, A, l, c, 0, he, (fun h => by cases h), (fun _ _ h => by cases h; exact ⟨rfl, rfl, rfl⟩), by omega, hR⟩
theorem pce_same {R : Option (List UInt8 × List At)} {er : Int} {nm nm2 : List UInt8} {A A2 : Option Addr} {l l2 : List At} {c c2 : Nat} {k k2 : Int} {w w2 : World} (h : PcE R er nm A l c k w) (h2 : PcE R er nm2 A2 l2 c2 k2 w2) : nm2 = nm ∧ l2 = l ∧ k2 = k := by
  cases R with
  | none =>
    obtain ⟨e1, e2, e3⟩ := h.no rfl
    obtain ⟨f1, f2, f3⟩ := h2.no rfl
    rw [e1, e2, e3, f1, f2, f3]
    exact ⟨rfl, rfl, rfl⟩
  | some p =>
    obtain ⟨n, m⟩ := p
    obtain ⟨e1, e2, e3⟩ := h.yes n m rfl
    obtain ⟨f1, f2, f3⟩ := h2.yes n m rfl
    rw [e1, e2, e3, f1, f2, f3]
    exact ⟨rfl, rfl, rfl⟩
theorem pparseR (s : List UInt8) (w : World) (hE : EnvF w) (hs : s.length ≤ 10000) : Calls Tryd.prog 5 #[.string (bsB s)] w fun e w' => (∃ (nm : List UInt8) (A : Option Addr) (l : List At) (c : Nat) (z : Int), e = .returned (.tuple #[.agg #[.string (bsB nm), .slice A l.length c], .int .i64 z]) ∧ PcE (parR s) 6 nm A l c z w') ∧ Below w.heap.size w w' := by
  obtain ⟨m0, hm⟩ := hE.m
  refine (pparse s w m0 hs hm).mono ?_
  rintro e w' hp
  exact ⟨pce_of hp.no (fun nm l h => ⟨((parR_iff _ _ _).1 h).1.1.2.2, hp.yes nm l h⟩), hp.below⟩
theorem rparseR (s : List UInt8) (w : World) (hs : s.length ≤ 10000) : Calls Tryd.prog 6 #[.string (bsB s)] w fun e w' => (∃ (nm : List UInt8) (A : Option Addr) (l : List At) (c : Nat) (z : Int), e = .returned (.tuple #[.agg #[.string (bsB nm), .slice A l.length c], .int .i64 z]) ∧ PcE (parR s) 6 nm A l c z w') ∧ Below w.heap.size w w' := by
  refine (rparse s w hs).mono ?_
  rintro e w' hp
  exact ⟨pce_of hp.no (fun nm l h => ⟨((parR_iff _ _ _).1 h).1.1.2.2, hp.yes nm l h⟩), hp.below⟩
set_option maxRecDepth 100000 in
set_option maxHeartbeats 1000000 in
theorem law_parses (s : ByteArray) (w : World) (hE : EnvF w) (hsz : s.size ≤ maxLen) : Calls Tryd.prog 3 #[.string s] w fun e w' => e = .returned (.bool true) ∧ Below w.heap.size w w' := by
  unfold maxLen at hsz
  have hEH := Lib.hid hE
  by_cases h200 : 200 < s.size
  · have q1 : (200 : Int) < (s.size : Int) := by omega
    have hkn := Lib.hid (knownF hE)
    clear hE
    go_enter Tryd.func3, Tryd.ntmps3
    go_wp2_with (go_at_call 4; refine hkn.out.mono ?_; rintro e w1 ⟨rfl, hb1⟩; replace hb1 := Lib.hid hb1)
    go_ret
    exact ⟨rfl, hb1.out⟩
  have q1 : (s.size : Int) ≤ 200 := by omega
  obtain ⟨t, rfl⟩ := bs_ex s
  have hbsz := bs_size t
  have htl : t.length ≤ 10000 := by omega
  have hP := Lib.hid (pparseR t w hE htl)
  have hR := Lib.hid (fun W => rparseR t W htl)
  clear hE h200 htl
  go_enter Tryd.func3, Tryd.ntmps3
  go_wp2_with fail
  go_at_call 5
  refine hP.out.mono ?_
  rintro e w1 ⟨⟨nm, A, l, c, z, rfl, hPc⟩, hb1⟩
  replace hPc := Lib.hid hPc
  replace hb1 := Lib.hid hb1
  have hba : Hid (Below w1.heap.size w1 (w1.alloc (.cells #[.string (bsB nm), .slice A l.length c] 25))) := (Below.refl _ _).alloc (Nat.le_refl _) _
  have hF := Lib.hid (B2.new w1 (.string (bsB nm)) (.slice A l.length c) 25)
  have hb2 : Hid (Below w.heap.size w (w1.alloc (.cells #[.string (bsB nm), .slice A l.length c] 25))) := hb1.out.trans (hba.out.mono hb1.out.size)
  have hRa := Lib.hid (recs_next hPc.out.recs hba.out)
  clear hP hba hb1
  go_upto_region 4 with fail
  generalize w1.heap.size = B3 at hF ⊢
  generalize w1.alloc (.cells #[.string (bsB nm), .slice A l.length c] 25) = w2 at *
  go_wp2_with fail
  go_at_call 6
  refine (hR.out _).mono ?_
  rintro e w3 ⟨⟨nm2, A2, l2, c2, z2, rfl, hPc2⟩, hb3⟩
  obtain ⟨rfl, rfl, rfl⟩ := pce_same hPc.out hPc2
  replace hb3 := Lib.hid hb3
  have hba : Hid (Below w3.heap.size w3 (w3.alloc (.cells #[.string (bsB nm2), .slice A2 l2.length c2] 25))) := (Below.refl _ _).alloc (Nat.le_refl _) _
  have hG := Lib.hid (B2.new w3 (.string (bsB nm2)) (.slice A2 l2.length c2) 25)
  have hF2 := Lib.hid ((hF.out.next hb3.out).next hba.out)
  have hRb := Lib.hid (recs_next (recs_next hRa.out hb3.out) hba.out)
  have hRc := Lib.hid (recs_next hPc2.recs hba.out)
  have hb4 : Hid (Below w.heap.size w (w3.alloc (.cells #[.string (bsB nm2), .slice A2 l2.length c2] 25))) := (hb2.out.trans (hb3.out.mono hb2.out.size)).trans (hba.out.mono (hb2.out.trans (hb3.out.mono hb2.out.size)).size)
  have hll := hPc2.len
  clear hPc2 hPc hF hRa hba hb3 hR hb2
  go_upto_region 5 with fail
  generalize w3.heap.size = B5 at hG ⊢
  generalize w3.alloc (.cells #[.string (bsB nm2), .slice A2 l2.length c2] 25) = w4 at *
  obtain ⟨f0, f1, _, _, _⟩ := hF2.out
  obtain ⟨f2, f3, _, _, _⟩ := hG.out
  have hq := Lib.hid (requal (bsB nm2) (bsB nm2) A A2 l2 l2 c c2 w4 hRb.out hRc.out (by omega) (by omega))
  rw [eqFy_refl] at hq
  go_wp2_with (first
    | (go_at_call 7; refine hq.out.mono ?_; rintro e w5 ⟨rfl, hb⟩; have hb5 : Hid (Below w.heap.size w w5) := hb4.out.trans (hb.mono hb4.out.size); clear hb)
    | (go_at_call 4; refine (knownF (hEH.out.next hb5.out)).mono ?_; rintro e w6 ⟨rfl, hb⟩; have hb6 : Hid (Below w.heap.size w w6) := hb5.out.trans (hb.mono hb5.out.size); clear hb))
  go_ret
  exact ⟨by first | rfl | simp, hb6.out⟩
end Go.Proofs.YtbcdimklblpdnaaDoor
