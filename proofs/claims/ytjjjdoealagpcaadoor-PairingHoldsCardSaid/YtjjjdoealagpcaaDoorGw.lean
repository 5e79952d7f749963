/- Layer 43: few; the law of valid fields. -/
import Derived.Test.YtjjjdoealagpcaaDoorGv
namespace Go.Proofs.YtjjjdoealagpcaaDoor
open Go Go.RowKit
set_option linter.unusedSimpArgs false
set_option linter.unusedVariables false
attribute [local go_sem ↓] Go.wp_at_zero Go.wp_at_succ
/-- a short name and a short list -/
def shortE (x : Ent) : Prop := x.name.size ≤ 60 ∧ x.met.length ≤ 14
def shortK (l : List Ent) (K : Nat) : Prop := ∀ (i : Nat) (x : Ent), i < K → l[i]? = some x → shortE x
theorem shortK.succ {l : List Ent} {k : Nat} {x : Ent} (h : shortK l k) (hx : l[k]? = some x) (hs : shortE x) : shortK l (k + 1) := by
  intro j z hj hz
  by_cases hjk : j < k
  · exact h j z hjk hz
  · obtain rfl : j = k := by omega
    rw [hx] at hz
    rw [← Option.some.inj hz]; exact hs
/-- the field is few: plain -/
def fewP (l : List Ent) : Prop := shortK l 14 ∧ l.length ≤ 7
open Classical in
noncomputable def fewB (l : List Ent) : Bool := decide (fewP l)
open Classical in
theorem fewB_yes {l : List Ent} (h : fewP l) : fewB l = true := by unfold fewB; exact decide_eq_true h
open Classical in
theorem fewB_no {l : List Ent} (h : ¬ fewP l) : fewB l = false := by unfold fewB; exact decide_eq_false h
/-- a field that came in -/
structure FI (w : World) (A : Option Addr) (l : List Ent) (c : Nat) : Prop where
  fld : Fld w A l
  cap : l.length ≤ c
  len : l.length ≤ maxLen
  nm : ∀ x ∈ l, x.name.size ≤ maxLen ∧ x.met.length ≤ maxLen
theorem FI.small {w : World} {A : Option Addr} {l : List Ent} {c : Nat} (h : FI w A l c) (hs : shortK l l.length) (hl : l.length ≤ 100000) : FH w A l c :=
  ⟨h.fld, h.cap, hl, fun x hx => (h.nm x hx).1, fun x hx => by
    obtain ⟨i, hi, rfl⟩ := List.getElem_of_mem hx
    have := (hs i _ hi (List.getElem?_eq_getElem hi)).2
    omega⟩
theorem FI.few {w : World} {A : Option Addr} {l : List Ent} {c : Nat} (h : FI w A l c) (hf : fewP l) : FH w A l c :=
  h.small (fun i x hi hx => hf.1 i x (by have := hf.2; omega) hx) (by have := hf.2; omega)
set_option maxRecDepth 100000 in
set_option maxHeartbeats 4000000 in
theorem lfew (A : Option Addr) (l : List Ent) (c : Nat) (w : World) (hF : FI w A l c) : Calls Tryd.prog 12 #[.slice A l.length c] w fun e w' => e = .returned (.bool (fewB l)) ∧ w = w' := by
  have hlm := hF.len
  unfold maxLen at hlm
  have hFH := Lib.hid hF
  clear hF
  go_enter Tryd.func12, Tryd.ntmps12
  go_wp2_with fail
  go_loop [3] (fun i => ∃ k : Nat, k ≤ l.length ∧ k ≤ 14 ∧ i = .int .i64 (k : Int) ∧ Hid (shortK l k)) (fun i => l.length - (intOf i).toNat)
  case atStart => exact ⟨0, by omega, by omega, rfl, fun i x hi => absurd hi (Nat.not_lt_zero _)⟩
  case round =>
    obtain ⟨k, hk, hk14, rfl, hsk⟩ := hrel
    by_cases hin : k < l.length ∧ k < 14
    · obtain ⟨hkn, hk2⟩ := hin
      obtain ⟨x, hx⟩ : ∃ x, l[k]? = some x := ⟨_, List.getElem?_eq_getElem hkn⟩
      obtain ⟨bk, off, hAt, hbk, hE⟩ := ent8 hFH.out.fld.row (by omega)
      subst hAt
      have e0 := (hE k x hx).e0
      have e7 := (hE k x hx).e7
      obtain ⟨n1, n2⟩ := hFH.out.nm x (List.mem_of_getElem? hx)
      unfold maxLen at n1 n2
      have hkI : (k : Int) < (l.length : Int) := by omega
      have hk0 : (0 : Int) ≤ (k : Int) := Int.natCast_nonneg _
      have hk14I : (k : Int) < 14 := by omega
      have hxH := Lib.hid hx
      clear hE hx
      by_cases h1 : x.name.size ≤ 60
      · have g1 : ¬ (60 : Int) < (x.name.size : Int) := by omega
        by_cases h2 : x.met.length ≤ 14
        · have g2 : ¬ (14 : Int) < (x.met.length : Int) := by omega
          have hnew := Lib.hid (hsk.out.succ hxH.out ⟨h1, h2⟩)
          go_wp2_with fail
          go_round
          case rel => exact ⟨k + 1, by omega, by omega, by go_num, hnew⟩
          case measure => simp [intOf]; omega
        · have g2 : (14 : Int) < (x.met.length : Int) := by omega
          have hV : Hid (fewB l = false) := fewB_no fun h => h2 (h.1 k x (by omega) hxH.out).2
          go_wp2_with fail
          go_ret
          exact ⟨PC.rb hV.out.symm, rfl⟩
      · have g1 : (60 : Int) < (x.name.size : Int) := by omega
        have hV : Hid (fewB l = false) := fewB_no fun h => h1 (h.1 k x (by omega) hxH.out).1
        go_wp2_with fail
        go_ret
        exact ⟨PC.rb hV.out.symm, rfl⟩
    · by_cases hl7 : l.length ≤ 7
      · have hk1 : k = l.length := by omega
        have hV : Hid (fewB l = true) := fewB_yes ⟨fun i x hi hx => hsk.out i x (by have := (List.getElem?_eq_some_iff.1 hx).1; omega) hx, hl7⟩
        have g1 : (l.length : Int) ≤ 7 := by omega
        have g2 : ¬ (k : Int) < (l.length : Int) := by omega
        clear hin
        go_wp2_with fail
        go_ret
        exact ⟨PC.rb hV.out.symm, rfl⟩
      · have hV : Hid (fewB l = false) := fewB_no fun h => hl7 h.2
        have g1 : ¬ (l.length : Int) ≤ 7 := by omega
        by_cases hkl : k < l.length
        · have g2 : (k : Int) < (l.length : Int) := by omega
          have g3 : ¬ (k : Int) < 14 := by omega
          clear hin
          go_wp2_with fail
          go_ret
          exact ⟨PC.rb hV.out.symm, rfl⟩
        · have g2 : ¬ (k : Int) < (l.length : Int) := by omega
          clear hin
          go_wp2_with fail
          go_ret
          exact ⟨PC.rb hV.out.symm, rfl⟩
set_option maxRecDepth 100000 in
set_option maxHeartbeats 4000000 in
theorem law_pvalid (A : Option Addr) (l : List Ent) (c : Nat) (w : World) (hF : FI w A l c) (hT : TabOK w) : Calls Tryd.prog 3 #[.slice A l.length c] w fun e w' => e = .returned (.bool true) ∧ Below w.heap.size w w' := by
  have hlm := hF.len
  unfold maxLen at hlm
  have hFH := Lib.hid hF
  have hK : Hid (∀ W, Below w.heap.size w W → Calls Tryd.prog 9 #[] W fun e w' => e = .returned (.bool true) ∧ Below W.heap.size W w') := fun W h => known_43 W (hT.next h)
  clear hF hT
  go_enter Tryd.func3, Tryd.ntmps3
  go_wp2_with fail
  go_loop [3] (fun i => ∃ k : Nat, k ≤ l.length ∧ k ≤ 15 ∧ i = .int .i64 (k : Int) ∧ Hid (shortK l k)) (fun i => l.length - (intOf i).toNat)
  case atStart => exact ⟨0, by omega, by omega, rfl, fun i x hi => absurd hi (Nat.not_lt_zero _)⟩
  case round =>
    obtain ⟨k, hk, hk14, rfl, hsk⟩ := hrel
    by_cases hin : k < l.length ∧ k < 15
    · obtain ⟨hkn, hk2⟩ := hin
      obtain ⟨x, hx⟩ : ∃ x, l[k]? = some x := ⟨_, List.getElem?_eq_getElem hkn⟩
      obtain ⟨bk, off, hAt, hbk, hE⟩ := ent8 hFH.out.fld.row (by omega)
      subst hAt
      have e0 := (hE k x hx).e0
      have e7 := (hE k x hx).e7
      obtain ⟨n1, n2⟩ := hFH.out.nm x (List.mem_of_getElem? hx)
      unfold maxLen at n1 n2
      have hkI : (k : Int) < (l.length : Int) := by omega
      have hk0 : (0 : Int) ≤ (k : Int) := Int.natCast_nonneg _
      have hk14I : (k : Int) < 15 := by omega
      have hxH := Lib.hid hx
      clear hE hx
      by_cases h1 : x.name.size ≤ 60
      · have g1 : ¬ (60 : Int) < (x.name.size : Int) := by omega
        by_cases h2 : x.met.length ≤ 14
        · have g2 : ¬ (14 : Int) < (x.met.length : Int) := by omega
          have hnew := Lib.hid (hsk.out.succ hxH.out ⟨h1, h2⟩)
          go_wp2_with fail
          go_round
          case rel => exact ⟨k + 1, by omega, by omega, by go_num, hnew⟩
          case measure => simp [intOf]; omega
        · have g2 : (14 : Int) < (x.met.length : Int) := by omega
          go_wp2_with (go_at_call 9; refine (hK.out _ (Below.refl _ _)).mono ?_; rintro e w' ⟨rfl, hb⟩)
          go_ret
          exact ⟨rfl, hb⟩
      · have g1 : (60 : Int) < (x.name.size : Int) := by omega
        go_wp2_with (go_at_call 9; refine (hK.out _ (Below.refl _ _)).mono ?_; rintro e w' ⟨rfl, hb⟩)
        go_ret
        exact ⟨rfl, hb⟩
    · by_cases hl14 : l.length ≤ 14
      · have hk1 : k = l.length := by omega
        have hsm : shortK l l.length := by rw [← hk1]; exact hsk.out
        have hFm := Lib.hid (hFH.out.small hsm (by omega))
        have g1 : ¬ (14 : Int) < (l.length : Int) := by omega
        have g2 : ¬ (k : Int) < (l.length : Int) := by omega
        have hbb : (fB l == fB l) = true := beq_self_eq_true _
        have hp : Hid (Calls Tryd.prog 10 #[.slice A l.length c] w fun e w' => e = .returned (.bool (fB l)) ∧ Below w.heap.size w w') := hFm.out.pvalid
        have hl : Hid (∀ W, Below w.heap.size w W → Calls Tryd.prog 11 #[.slice A l.length c] W fun e w' => e = .returned (.bool (fB l)) ∧ Below W.heap.size W w') := fun W h => (hFm.out.next h).lvalid
        clear hin hsm hFm
        generalize fB l = V at *
        go_wp2_with fail
        go_at_call 10
        refine hp.out.mono ?_
        rintro e w1 ⟨rfl, hb1⟩
        replace hb1 := Lib.hid hb1
        go_wp2_with fail
        go_at_call 11
        refine (hl.out w1 hb1.out).mono ?_
        rintro e w2 ⟨rfl, hb2⟩
        replace hb1 := Lib.hid (hb1.out.trans (hb2.mono hb1.out.size))
        clear hb2
        go_wp2_with fail
        go_at_call 9
        refine (hK.out w2 hb1.out).mono ?_
        rintro e w3 ⟨rfl, hb3⟩
        replace hb1 := Lib.hid (hb1.out.trans (hb3.mono hb1.out.size))
        clear hb3
        go_wp2_with fail
        go_ret
        exact ⟨rfl, hb1.out⟩
      · have g1 : (14 : Int) < (l.length : Int) := by omega
        by_cases hkl : k < l.length
        · have g2 : (k : Int) < (l.length : Int) := by omega
          have g3 : ¬ (k : Int) < 15 := by omega
          clear hin
          go_wp2_with (go_at_call 9; refine (hK.out _ (Below.refl _ _)).mono ?_; rintro e w' ⟨rfl, hb⟩)
          go_ret
          exact ⟨rfl, hb⟩
        · have g2 : ¬ (k : Int) < (l.length : Int) := by omega
          clear hin
          go_wp2_with (go_at_call 9; refine (hK.out _ (Below.refl _ _)).mono ?_; rintro e w' ⟨rfl, hb⟩)
          go_ret
          exact ⟨rfl, hb⟩
end Go.Proofs.YtjjjdoealagpcaaDoor
