/- Layer 35: single themes: Has of the program and of the reference, and the law that compares them. -/
import Derived.Test.YteaclphankckiaaTah
import Derived.Test.YteaclphankckiaaTaa
import Derived.Test.YteaclphankckiaaTad
namespace Go.Proofs.Yteaclphankckiaa
open Go Go.RowKit
set_option linter.unusedSimpArgs false
set_option linter.unusedVariables false
def hasB (l : List Sh') (th : Int) : Bool := l.any fun x => x.1 == th
theorem hasB_yes {l : List Sh'} {th : Int} {k : Nat} {x : Sh'} (h : l[k]? = some x) (h2 : (x.1 == th) = true) : hasB l th = true := List.any_eq_true.2 ⟨x, List.mem_of_getElem? h, h2⟩
theorem hasB_no {l : List Sh'} {th : Int} (h : ∀ (j : Nat) (x : Sh'), j < l.length → l[j]? = some x → (x.1 == th) = false) : hasB l th = false := by
  unfold hasB
  rw [List.any_eq_false]
  intro x hx
  obtain ⟨j, hj, rfl⟩ := List.getElem_of_mem hx
  rw [h j _ hj (List.getElem?_eq_getElem hj)]
  decide
theorem has1 (a b th : Int) (B : Nat) (w : World) (hB : w.cell? ⟨B, 0, none⟩ = some (.int .i64 th)) (hlt : B < w.heap.size) :
    Calls Try.prog 44 #[.agg #[.int .i64 a, .int .i64 b], .pointer (some ⟨B, 0, none⟩)] w fun e w' => e = .returned (.bool (a == th)) ∧ Below w.heap.size w w' := by
  have hb1 : Below w.heap.size w (w.alloc (.cells #[.int .i64 a, .int .i64 b] 52)) := (Below.refl _ _).alloc (Nat.le_refl _) _
  have c0 : (w.alloc (.cells #[.int .i64 a, .int .i64 b] 52)).cell? ⟨w.heap.size, 0, none⟩ = some (.int .i64 a) := by
    rw [cell_of_row _ _ _ _ _ _ (heap_alloc_new w (.cells #[.int .i64 a, .int .i64 b] 52))]; rfl
  have c1 : (w.alloc (.cells #[.int .i64 a, .int .i64 b] 52)).cell? ⟨B, 0, none⟩ = some (.int .i64 th) := (hb1.cell (p := ⟨B, 0, none⟩) hlt).trans hB
  replace hb1 := Lib.hid hb1
  clear hB hlt
  go_enter Try.func44, Try.ntmps44
  go_upto_region 1 with fail
  generalize w.alloc (.cells #[.int .i64 a, .int .i64 b] 52) = w1 at *
  go_wp2_with fail
  go_ret
  exact ⟨rfl, hb1.out⟩
set_option maxRecDepth 100000 in
set_option maxHeartbeats 4000000 in
theorem hixf (A : Option Addr) (c : Nat) (l : List Sh') (B : Nat) (th : Int) (w : World) (hA : RecAt shEnc 2 w w.heap.size A l) (hl : l.length ≤ 100000) (hB : w.cell? ⟨B, 0, none⟩ = some (.int .i64 th)) (hlt : B < w.heap.size) :
    Calls Try.prog 54 #[.slice A l.length c, .func (.func 44) #[] #[.pointer (some ⟨B, 0, none⟩)]] w fun e w' => (∃ n : Int, e = .returned (.int .i64 n) ∧ decide (0 ≤ n) = hasB l th) ∧ Below w.heap.size w w' := by
  have hAH := Lib.hid hA
  have hBH := Lib.hid hB
  have hltH := Lib.hid hlt
  clear hA hB hlt
  go_enter Try.func54, Try.ntmps54
  go_wp2_with fail
  go_loopw [5, 8] (fun _ i wr => ∃ k : Nat, k ≤ l.length ∧ i = .int .i64 k ∧ Hid (∀ (j : Nat) (x : Sh'), j < k → l[j]? = some x → (x.1 == th) = false) ∧ Hid (Below w.heap.size w wr)) (fun _ i _ => l.length - (intOf i).toNat)
  case atStart => exact ⟨0, by omega, rfl, fun j x hj => absurd hj (Nat.not_lt_zero _), Below.refl _ _⟩
  case round =>
    obtain ⟨k, hk, rfl, hgood, hbr⟩ := hrel
    by_cases hkn : k < l.length
    · obtain ⟨x, hx⟩ : ∃ x, l[k]? = some x := ⟨_, List.getElem?_eq_getElem hkn⟩
      obtain ⟨b, off, rfl, hb, e0, e1⟩ := sh2 hAH.out hx
      have hkI : (k : Int) < (l.length : Int) := by omega
      have hk0 : (0 : Int) ≤ (k : Int) := Int.natCast_nonneg _
      have m0 : wr.cell? ⟨b, off + k * 2, none⟩ = some (.int .i64 x.1) := (hbr.out.cell (p := ⟨b, off + k * 2, none⟩) hb).trans e0
      have m1 : wr.cell? ⟨b, off + k * 2 + 1, none⟩ = some (.int .i64 x.2) := (hbr.out.cell (p := ⟨b, off + k * 2 + 1, none⟩) hb).trans e1
      have hB2 : Hid (wr.cell? ⟨B, 0, none⟩ = some (.int .i64 th)) := (hbr.out.cell (p := ⟨B, 0, none⟩) hltH.out).trans hBH.out
      have hlt2 := Lib.hid (Nat.lt_of_lt_of_le hltH.out hbr.out.size)
      have hsz := Lib.hid hbr.out.size
      clear e0 e1 hb
      rcases hv : x.1 == th with _ | _
      · replace hx := Lib.hid hx
        go_wp2_with (go_at_call 44; refine (has1 _ _ th B _ hB2.out hlt2.out).mono ?_; rintro e w2 ⟨rfl, hb2⟩; rw [hv]; replace hbr := Lib.hid (hbr.out.trans (hb2.mono hsz.out)); clear hb2)
        go_roundw
        case rel =>
          refine ⟨k + 1, by omega, by go_num, fun j y hj hy => ?_, hbr⟩
          by_cases hjk : j < k
          · exact hgood.out j y hjk hy
          · obtain rfl : j = k := by omega
            rw [hx.out] at hy
            rw [← Option.some.inj hy]; exact hv
        case measure => simp [intOf]; omega
      · have hyes := Lib.hid (hasB_yes hx hv)
        replace hx := Lib.hid hx
        go_wp2_with (go_at_call 44; refine (has1 _ _ th B _ hB2.out hlt2.out).mono ?_; rintro e w2 ⟨rfl, hb2⟩; rw [hv]; replace hbr := Lib.hid (hbr.out.trans (hb2.mono hsz.out)); clear hb2)
        go_ret
        exact ⟨⟨k, rfl, by rw [hyes.out]; exact decide_eq_true (by omega)⟩, hbr.out⟩
    · obtain rfl : k = l.length := by omega
      have hno := Lib.hid (hasB_no hgood.out)
      go_wp2_with fail
      go_ret
      exact ⟨⟨-1, rfl, by rw [hno.out]; rfl⟩, hbr.out⟩
theorem hcont (A : Option Addr) (c : Nat) (l : List Sh') (B : Nat) (th : Int) (w : World) (hA : RecAt shEnc 2 w w.heap.size A l) (hl : l.length ≤ 100000) (hB : w.cell? ⟨B, 0, none⟩ = some (.int .i64 th)) (hlt : B < w.heap.size) :
    Calls Try.prog 43 #[.slice A l.length c, .func (.func 44) #[] #[.pointer (some ⟨B, 0, none⟩)]] w fun e w' => e = .returned (.bool (hasB l th)) ∧ Below w.heap.size w w' := by
  have hAH := Lib.hid hA
  have hBH := Lib.hid hB
  have hltH := Lib.hid hlt
  clear hA hB hlt
  generalize hV : hasB l th = V
  replace hV := Lib.hid hV
  go_enter Try.func43, Try.ntmps43
  go_wp2_with (go_at_call 54; refine (hixf _ _ _ _ th _ hAH.out hl hBH.out hltH.out).mono ?_; rintro e w' ⟨⟨n, rfl, hn⟩, hb2⟩; rw [hV.out] at hn; replace hn := Lib.hid hn; replace hb2 := Lib.hid hb2)
  go_ret
  exact ⟨by rw [← hn.out]; try rfl, hb2.out⟩
set_option maxRecDepth 100000 in
set_option maxHeartbeats 4000000 in
theorem rhas (A : Option Addr) (c : Nat) (l : List Sh') (th : Int) (w : World) (hA : RecAt shEnc 2 w w.heap.size A l) (hl : l.length ≤ 100000) :
    Calls Try.prog 24 #[.slice A l.length c, .int .i64 th] w fun e w' => e = .returned (.bool (hasB l th)) ∧ w = w' := by
  have hAH := Lib.hid hA
  clear hA
  go_enter Try.func24, Try.ntmps24
  go_wp2_with fail
  go_loop [5] (fun i => ∃ k : Nat, k ≤ l.length ∧ i = .int .i64 k ∧ Hid (∀ (j : Nat) (x : Sh'), j < k → l[j]? = some x → (x.1 == th) = false)) (fun i => l.length - (intOf i).toNat)
  case atStart => exact ⟨0, by omega, rfl, fun j x hj => absurd hj (Nat.not_lt_zero _)⟩
  case round =>
    obtain ⟨k, hk, rfl, hgood⟩ := hrel
    by_cases hkn : k < l.length
    · obtain ⟨x, hx⟩ : ∃ x, l[k]? = some x := ⟨_, List.getElem?_eq_getElem hkn⟩
      obtain ⟨b, off, rfl, hb, m0, m1⟩ := sh2 hAH.out hx
      have hkI : (k : Int) < (l.length : Int) := by omega
      have hk0 : (0 : Int) ≤ (k : Int) := Int.natCast_nonneg _
      clear hb
      rcases hv : x.1 == th with _ | _
      · replace hx := Lib.hid hx
        go_wp2_with fail
        go_round
        case rel =>
          refine ⟨k + 1, by omega, by go_num, fun j y hj hy => ?_⟩
          by_cases hjk : j < k
          · exact hgood.out j y hjk hy
          · obtain rfl : j = k := by omega
            rw [hx.out] at hy
            rw [← Option.some.inj hy]; exact hv
        case measure => simp [intOf]; omega
      · have hyes := Lib.hid (hasB_yes hx hv)
        replace hx := Lib.hid hx
        go_wp2_with fail
        go_ret
        exact ⟨by rw [hyes.out]; rfl, rfl⟩
    · obtain rfl : k = l.length := by omega
      have hno := Lib.hid (hasB_no hgood.out)
      go_wp2_with fail
      go_ret
      exact ⟨by rw [hno.out]; rfl, rfl⟩
set_option maxRecDepth 100000 in
set_option maxHeartbeats 4000000 in
theorem phas_inv (f q : Int) (bk : Bool) (A : Option Addr) (t : List Nd) (c : Nat) (th : Int) (w : World) (hT : RecAt nEnc 4 w w.heap.size A t) (hl : t.length ≤ 990) (hv0 : treeB f q t = false) :
    Calls Try.prog 23 #[.agg #[.int .i64 f, .int .i64 q], .bool bk, .slice A t.length c, .int .i64 th] w fun e w' => e = .returned (.tuple #[.bool false, .int .i64 2]) ∧ Below w.heap.size w w' := by
  have hv := Lib.hid hv0
  clear hv0
  have hS := Sz2.new w f q 23
  have hb1 : Hid (Below w.heap.size w ((w.alloc (.cells #[.int .i64 f, .int .i64 q] 23)).alloc (.cells #[.int .i64 th] 42))) := ((Below.refl _ _).alloc (Nat.le_refl _) _).alloc (by simp) _
  have hbs : Below (w.alloc (.cells #[.int .i64 f, .int .i64 q] 23)).heap.size (w.alloc (.cells #[.int .i64 f, .int .i64 q] 23)) ((w.alloc (.cells #[.int .i64 f, .int .i64 q] 23)).alloc (.cells #[.int .i64 th] 42)) := (Below.refl _ _).alloc (Nat.le_refl _) _
  replace hS := Lib.hid (hS.next hbs)
  have hi3 : Hid (((w.alloc (.cells #[.int .i64 f, .int .i64 q] 23)).alloc (.cells #[.int .i64 th] 42)).cell? ⟨w.heap.size + 1, 0, none⟩ = some (.int .i64 th)) := by
    have h := cell_new (w := (w.alloc (.cells #[.int .i64 f, .int .i64 q] 23))) (v := .int .i64 th) (t := 42)
    rwa [show (w.alloc (.cells #[.int .i64 f, .int .i64 q] 23)).heap.size = w.heap.size + 1 by simp] at h
  have hb3s : Hid (w.heap.size + 1 < ((w.alloc (.cells #[.int .i64 f, .int .i64 q] 23)).alloc (.cells #[.int .i64 th] 42)).heap.size) := by show _ < _; simp
  have hT1 := Lib.hid ((hT.below (Nat.le_refl _) hb1.out).more hb1.out.size)
  clear hT hbs
  go_enter Try.func23, Try.ntmps23
  go_upto_region 1 with fail
  generalize ((w.alloc (.cells #[.int .i64 f, .int .i64 q] 23)).alloc (.cells #[.int .i64 th] 42)) = w1 at *
  have c0 := hS.out.c0
  have c1 := hS.out.c1
  have c2 := hi3.out
  go_wp2_with fail
  go_at_call 14
  refine (pfind_no f q bk A t c w1 hT1.out (by omega) hv.out).mono ?_
  rintro e w2 ⟨rfl, hb2⟩
  replace c2 := (hb2.cell (p := ⟨w.heap.size + 1, 0, none⟩) hb3s.out).trans c2
  replace hb3s := Lib.hid (Nat.lt_of_lt_of_le hb3s.out hb2.size)
  replace hb1 := Lib.hid (hb1.out.trans (hb2.mono hb1.out.size))
  replace c0 := hS.out.c0
  clear hb2 c0 c1
  go_wp2_with fail
  go_ret2
  exact ⟨rfl, hb1.out⟩
set_option maxRecDepth 100000 in
set_option maxHeartbeats 4000000 in
theorem phas_lo (f q : Int) (bk : Bool) (A : Option Addr) (t : List Nd) (c : Nat) (th : Int) (w : World) (hT : RecAt nEnc 4 w w.heap.size A t) (hl : t.length ≤ 990) (hv0 : treeB f q t = true) (h1 : th < 1) :
    Calls Try.prog 23 #[.agg #[.int .i64 f, .int .i64 q], .bool bk, .slice A t.length c, .int .i64 th] w fun e w' => e = .returned (.tuple #[.bool false, .int .i64 2]) ∧ Below w.heap.size w w' := by
  have hv := Lib.hid hv0
  clear hv0
  have hS := Sz2.new w f q 23
  have hb1 : Hid (Below w.heap.size w ((w.alloc (.cells #[.int .i64 f, .int .i64 q] 23)).alloc (.cells #[.int .i64 th] 42))) := ((Below.refl _ _).alloc (Nat.le_refl _) _).alloc (by simp) _
  have hbs : Below (w.alloc (.cells #[.int .i64 f, .int .i64 q] 23)).heap.size (w.alloc (.cells #[.int .i64 f, .int .i64 q] 23)) ((w.alloc (.cells #[.int .i64 f, .int .i64 q] 23)).alloc (.cells #[.int .i64 th] 42)) := (Below.refl _ _).alloc (Nat.le_refl _) _
  replace hS := Lib.hid (hS.next hbs)
  have hi3 : Hid (((w.alloc (.cells #[.int .i64 f, .int .i64 q] 23)).alloc (.cells #[.int .i64 th] 42)).cell? ⟨w.heap.size + 1, 0, none⟩ = some (.int .i64 th)) := by
    have h := cell_new (w := (w.alloc (.cells #[.int .i64 f, .int .i64 q] 23))) (v := .int .i64 th) (t := 42)
    rwa [show (w.alloc (.cells #[.int .i64 f, .int .i64 q] 23)).heap.size = w.heap.size + 1 by simp] at h
  have hb3s : Hid (w.heap.size + 1 < ((w.alloc (.cells #[.int .i64 f, .int .i64 q] 23)).alloc (.cells #[.int .i64 th] 42)).heap.size) := by show _ < _; simp
  have hT1 := Lib.hid ((hT.below (Nat.le_refl _) hb1.out).more hb1.out.size)
  clear hT hbs
  go_enter Try.func23, Try.ntmps23
  go_upto_region 1 with fail
  generalize ((w.alloc (.cells #[.int .i64 f, .int .i64 q] 23)).alloc (.cells #[.int .i64 th] 42)) = w1 at *
  have c0 := hS.out.c0
  have c1 := hS.out.c1
  have c2 := hi3.out
  go_wp2_with fail
  go_at_call 14
  refine (pfind_yes f q bk A t c w1 hT1.out (by omega) hv.out).mono ?_
  rintro e w2 ⟨Af, cf, rfl, hRf, hb2⟩
  replace c2 := (hb2.cell (p := ⟨w.heap.size + 1, 0, none⟩) hb3s.out).trans c2
  replace hb3s := Lib.hid (Nat.lt_of_lt_of_le hb3s.out hb2.size)
  clear hRf
  replace hb1 := Lib.hid (hb1.out.trans (hb2.mono hb1.out.size))
  replace c0 := hS.out.c0
  clear hb2 c0 c1
  go_wp2_with fail
  go_ret2
  exact ⟨rfl, hb1.out⟩
set_option maxRecDepth 100000 in
set_option maxHeartbeats 4000000 in
theorem phas_hi (f q : Int) (bk : Bool) (A : Option Addr) (t : List Nd) (c : Nat) (th : Int) (w : World) (hT : RecAt nEnc 4 w w.heap.size A t) (hl : t.length ≤ 990) (hv0 : treeB f q t = true) (h1 : 1 ≤ th) (h2 : 6 < th) :
    Calls Try.prog 23 #[.agg #[.int .i64 f, .int .i64 q], .bool bk, .slice A t.length c, .int .i64 th] w fun e w' => e = .returned (.tuple #[.bool false, .int .i64 2]) ∧ Below w.heap.size w w' := by
  have hv := Lib.hid hv0
  clear hv0
  have hS := Sz2.new w f q 23
  have hb1 : Hid (Below w.heap.size w ((w.alloc (.cells #[.int .i64 f, .int .i64 q] 23)).alloc (.cells #[.int .i64 th] 42))) := ((Below.refl _ _).alloc (Nat.le_refl _) _).alloc (by simp) _
  have hbs : Below (w.alloc (.cells #[.int .i64 f, .int .i64 q] 23)).heap.size (w.alloc (.cells #[.int .i64 f, .int .i64 q] 23)) ((w.alloc (.cells #[.int .i64 f, .int .i64 q] 23)).alloc (.cells #[.int .i64 th] 42)) := (Below.refl _ _).alloc (Nat.le_refl _) _
  replace hS := Lib.hid (hS.next hbs)
  have hi3 : Hid (((w.alloc (.cells #[.int .i64 f, .int .i64 q] 23)).alloc (.cells #[.int .i64 th] 42)).cell? ⟨w.heap.size + 1, 0, none⟩ = some (.int .i64 th)) := by
    have h := cell_new (w := (w.alloc (.cells #[.int .i64 f, .int .i64 q] 23))) (v := .int .i64 th) (t := 42)
    rwa [show (w.alloc (.cells #[.int .i64 f, .int .i64 q] 23)).heap.size = w.heap.size + 1 by simp] at h
  have hb3s : Hid (w.heap.size + 1 < ((w.alloc (.cells #[.int .i64 f, .int .i64 q] 23)).alloc (.cells #[.int .i64 th] 42)).heap.size) := by show _ < _; simp
  have hT1 := Lib.hid ((hT.below (Nat.le_refl _) hb1.out).more hb1.out.size)
  clear hT hbs
  go_enter Try.func23, Try.ntmps23
  go_upto_region 1 with fail
  generalize ((w.alloc (.cells #[.int .i64 f, .int .i64 q] 23)).alloc (.cells #[.int .i64 th] 42)) = w1 at *
  have c0 := hS.out.c0
  have c1 := hS.out.c1
  have c2 := hi3.out
  go_wp2_with fail
  go_at_call 14
  refine (pfind_yes f q bk A t c w1 hT1.out (by omega) hv.out).mono ?_
  rintro e w2 ⟨Af, cf, rfl, hRf, hb2⟩
  replace c2 := (hb2.cell (p := ⟨w.heap.size + 1, 0, none⟩) hb3s.out).trans c2
  replace hb3s := Lib.hid (Nat.lt_of_lt_of_le hb3s.out hb2.size)
  clear hRf
  replace hb1 := Lib.hid (hb1.out.trans (hb2.mono hb1.out.size))
  replace c0 := hS.out.c0
  clear hb2 c0 c1
  go_wp2_with fail
  go_ret2
  exact ⟨rfl, hb1.out⟩
set_option maxRecDepth 100000 in
set_option maxHeartbeats 4000000 in
theorem phas_yes (f q : Int) (bk : Bool) (A : Option Addr) (t : List Nd) (c : Nat) (th : Int) (w : World) (hT : RecAt nEnc 4 w w.heap.size A t) (hl : t.length ≤ 990) (hv0 : treeB f q t = true) (h1 : 1 ≤ th) (h2 : th ≤ 6) :
    Calls Try.prog 23 #[.agg #[.int .i64 f, .int .i64 q], .bool bk, .slice A t.length c, .int .i64 th] w fun e w' => e = .returned (.tuple #[.bool (hasB (fnd f q bk t t.length) th), .int .i64 0]) ∧ Below w.heap.size w w' := by
  have hv := Lib.hid hv0
  have hfl := fnd_len f q bk t t.length
  clear hv0
  have hS := Sz2.new w f q 23
  have hb1 : Hid (Below w.heap.size w ((w.alloc (.cells #[.int .i64 f, .int .i64 q] 23)).alloc (.cells #[.int .i64 th] 42))) := ((Below.refl _ _).alloc (Nat.le_refl _) _).alloc (by simp) _
  have hbs : Below (w.alloc (.cells #[.int .i64 f, .int .i64 q] 23)).heap.size (w.alloc (.cells #[.int .i64 f, .int .i64 q] 23)) ((w.alloc (.cells #[.int .i64 f, .int .i64 q] 23)).alloc (.cells #[.int .i64 th] 42)) := (Below.refl _ _).alloc (Nat.le_refl _) _
  replace hS := Lib.hid (hS.next hbs)
  have hi3 : Hid (((w.alloc (.cells #[.int .i64 f, .int .i64 q] 23)).alloc (.cells #[.int .i64 th] 42)).cell? ⟨w.heap.size + 1, 0, none⟩ = some (.int .i64 th)) := by
    have h := cell_new (w := (w.alloc (.cells #[.int .i64 f, .int .i64 q] 23))) (v := .int .i64 th) (t := 42)
    rwa [show (w.alloc (.cells #[.int .i64 f, .int .i64 q] 23)).heap.size = w.heap.size + 1 by simp] at h
  have hb3s : Hid (w.heap.size + 1 < ((w.alloc (.cells #[.int .i64 f, .int .i64 q] 23)).alloc (.cells #[.int .i64 th] 42)).heap.size) := by show _ < _; simp
  have hT1 := Lib.hid ((hT.below (Nat.le_refl _) hb1.out).more hb1.out.size)
  clear hT hbs
  go_enter Try.func23, Try.ntmps23
  go_upto_region 1 with fail
  generalize ((w.alloc (.cells #[.int .i64 f, .int .i64 q] 23)).alloc (.cells #[.int .i64 th] 42)) = w1 at *
  have c0 := hS.out.c0
  have c1 := hS.out.c1
  have c2 := hi3.out
  go_wp2_with fail
  go_at_call 14
  refine (pfind_yes f q bk A t c w1 hT1.out (by omega) hv.out).mono ?_
  rintro e w2 ⟨Af, cf, rfl, hRf, hb2⟩
  replace c2 := (hb2.cell (p := ⟨w.heap.size + 1, 0, none⟩) hb3s.out).trans c2
  replace hb3s := Lib.hid (Nat.lt_of_lt_of_le hb3s.out hb2.size)
  replace hRf := Lib.hid hRf
  replace hb1 := Lib.hid (hb1.out.trans (hb2.mono hb1.out.size))
  replace c0 := hS.out.c0
  clear hb2 c0 c1
  go_wp2_with fail
  go_at_call 43
  refine (hcont Af cf _ _ th w2 hRf.out (by omega) c2 hb3s.out).mono ?_
  rintro e w3 ⟨rfl, hb3⟩
  replace hb1 := Lib.hid (hb1.out.trans (hb3.mono hb1.out.size))
  clear hb3 c2
  go_wp2_with fail
  go_ret2
  exact ⟨rfl, hb1.out⟩
set_option maxRecDepth 100000 in
set_option maxHeartbeats 4000000 in
theorem has_far (f q : Int) (bk : Bool) (A : Option Addr) (t : List Nd) (c : Nat) (th : Int) (w : World) (hT : RecAt nEnc 4 w w.heap.size A t) (hc : t.length ≤ c) (hl : 100 < (t.length : Int)) :
    Calls Try.prog 7 #[.agg #[.int .i64 f, .int .i64 q], .bool bk, .slice A t.length c, .int .i64 th] w fun e w' => e = .returned (.bool true) ∧ Below w.heap.size w w' := by
  have hS := Lib.hid (Sz2.new w f q 23)
  have hb1 : Hid (Below w.heap.size w (w.alloc (.cells #[.int .i64 f, .int .i64 q] 23))) := (Below.refl _ _).alloc (Nat.le_refl _) _
  have hT1 := Lib.hid ((hT.below (Nat.le_refl _) hb1.out).more hb1.out.size)
  have hs1 : w.heap.size < (w.alloc (.cells #[.int .i64 f, .int .i64 q] 23)).heap.size := by simp
  clear hT
  go_enter Try.func7, Try.ntmps7
  go_upto_region 1 with fail
  generalize w.alloc (.cells #[.int .i64 f, .int .i64 q] 23) = w1 at *
  have c0 := hS.out.c0
  have c1 := hS.out.c1
  go_wp2_with fail
  go_at_call 8
  refine (known_35 w1).mono ?_
  rintro e wk ⟨rfl, hbk⟩
  replace hS := Lib.hid (hS.out.next hbk)
  replace hb1 := Lib.hid (hb1.out.trans (hbk.mono hb1.out.size))
  replace c0 := hS.out.c0
  replace c1 := hS.out.c1
  clear hbk
  go_wp2_with fail
  go_ret
  exact ⟨rfl, hb1.out⟩
set_option maxRecDepth 100000 in
set_option maxHeartbeats 4000000 in
theorem has_inv (f q : Int) (bk : Bool) (A : Option Addr) (t : List Nd) (c : Nat) (th : Int) (w : World) (hT : RecAt nEnc 4 w w.heap.size A t) (hc : t.length ≤ c) (hl : (t.length : Int) ≤ 100) (hv0 : treeB f q t = false) :
    Calls Try.prog 7 #[.agg #[.int .i64 f, .int .i64 q], .bool bk, .slice A t.length c, .int .i64 th] w fun e w' => e = .returned (.bool true) ∧ Below w.heap.size w w' := by
  have hv := Lib.hid hv0
  clear hv0
  have hS := Lib.hid (Sz2.new w f q 23)
  have hb1 : Hid (Below w.heap.size w (w.alloc (.cells #[.int .i64 f, .int .i64 q] 23))) := (Below.refl _ _).alloc (Nat.le_refl _) _
  have hT1 := Lib.hid ((hT.below (Nat.le_refl _) hb1.out).more hb1.out.size)
  have hs1 : w.heap.size < (w.alloc (.cells #[.int .i64 f, .int .i64 q] 23)).heap.size := by simp
  clear hT
  go_enter Try.func7, Try.ntmps7
  go_upto_region 1 with fail
  generalize w.alloc (.cells #[.int .i64 f, .int .i64 q] 23) = w1 at *
  have c0 := hS.out.c0
  have c1 := hS.out.c1
  go_wp2_with fail
  go_at_call 23
  refine (phas_inv f q bk A t c th w1 hT1.out (by omega) hv.out).mono ?_
  rintro e w2 ⟨rfl, hb2⟩
  replace hS := Lib.hid (hS.out.next hb2)
  replace hT1 := Lib.hid ((hT1.out.below (Nat.le_refl _) hb2).more hb2.size)
  replace hb1 := Lib.hid (hb1.out.trans (hb2.mono hb1.out.size))
  replace c0 := hS.out.c0
  replace c1 := hS.out.c1
  clear hb2
  go_wp2_with fail
  go_at_call 11
  refine (rtree f q A t c w2 hT1.out (by omega) hc).mono ?_
  rw [hv.out]
  rintro e w3 ⟨rfl, hb3⟩
  replace hS := Lib.hid (hS.out.next hb3)
  replace hb1 := Lib.hid (hb1.out.trans (hb3.mono hb1.out.size))
  replace c0 := hS.out.c0
  replace c1 := hS.out.c1
  clear hb3
  go_wp2_with fail
  go_at_call 8
  refine (known_35 w3).mono ?_
  rintro e wk ⟨rfl, hbk⟩
  replace hS := Lib.hid (hS.out.next hbk)
  replace hb1 := Lib.hid (hb1.out.trans (hbk.mono hb1.out.size))
  replace c0 := hS.out.c0
  replace c1 := hS.out.c1
  clear hbk
  go_wp2_with fail
  go_ret
  exact ⟨rfl, hb1.out⟩
set_option maxRecDepth 100000 in
set_option maxHeartbeats 4000000 in
theorem has_lo (f q : Int) (bk : Bool) (A : Option Addr) (t : List Nd) (c : Nat) (th : Int) (w : World) (hT : RecAt nEnc 4 w w.heap.size A t) (hc : t.length ≤ c) (hl : (t.length : Int) ≤ 100) (hv0 : treeB f q t = true) (h1 : th < 1) :
    Calls Try.prog 7 #[.agg #[.int .i64 f, .int .i64 q], .bool bk, .slice A t.length c, .int .i64 th] w fun e w' => e = .returned (.bool true) ∧ Below w.heap.size w w' := by
  have hv := Lib.hid hv0
  clear hv0
  have hS := Lib.hid (Sz2.new w f q 23)
  have hb1 : Hid (Below w.heap.size w (w.alloc (.cells #[.int .i64 f, .int .i64 q] 23))) := (Below.refl _ _).alloc (Nat.le_refl _) _
  have hT1 := Lib.hid ((hT.below (Nat.le_refl _) hb1.out).more hb1.out.size)
  have hs1 : w.heap.size < (w.alloc (.cells #[.int .i64 f, .int .i64 q] 23)).heap.size := by simp
  clear hT
  go_enter Try.func7, Try.ntmps7
  go_upto_region 1 with fail
  generalize w.alloc (.cells #[.int .i64 f, .int .i64 q] 23) = w1 at *
  have c0 := hS.out.c0
  have c1 := hS.out.c1
  go_wp2_with fail
  go_at_call 23
  refine (phas_lo f q bk A t c th w1 hT1.out (by omega) hv.out h1).mono ?_
  rintro e w2 ⟨rfl, hb2⟩
  replace hS := Lib.hid (hS.out.next hb2)
  replace hT1 := Lib.hid ((hT1.out.below (Nat.le_refl _) hb2).more hb2.size)
  replace hb1 := Lib.hid (hb1.out.trans (hb2.mono hb1.out.size))
  replace c0 := hS.out.c0
  replace c1 := hS.out.c1
  clear hb2
  go_wp2_with fail
  go_at_call 11
  refine (rtree f q A t c w2 hT1.out (by omega) hc).mono ?_
  rw [hv.out]
  rintro e w3 ⟨rfl, hb3⟩
  replace hS := Lib.hid (hS.out.next hb3)
  replace hb1 := Lib.hid (hb1.out.trans (hb3.mono hb1.out.size))
  replace c0 := hS.out.c0
  replace c1 := hS.out.c1
  clear hb3
  go_wp2_with fail
  go_at_call 8
  refine (known_35 w3).mono ?_
  rintro e wk ⟨rfl, hbk⟩
  replace hS := Lib.hid (hS.out.next hbk)
  replace hb1 := Lib.hid (hb1.out.trans (hbk.mono hb1.out.size))
  replace c0 := hS.out.c0
  replace c1 := hS.out.c1
  clear hbk
  go_wp2_with fail
  go_ret
  exact ⟨rfl, hb1.out⟩
set_option maxRecDepth 100000 in
set_option maxHeartbeats 4000000 in
theorem has_hi (f q : Int) (bk : Bool) (A : Option Addr) (t : List Nd) (c : Nat) (th : Int) (w : World) (hT : RecAt nEnc 4 w w.heap.size A t) (hc : t.length ≤ c) (hl : (t.length : Int) ≤ 100) (hv0 : treeB f q t = true) (h1 : 1 ≤ th) (h2 : 6 < th) :
    Calls Try.prog 7 #[.agg #[.int .i64 f, .int .i64 q], .bool bk, .slice A t.length c, .int .i64 th] w fun e w' => e = .returned (.bool true) ∧ Below w.heap.size w w' := by
  have hv := Lib.hid hv0
  clear hv0
  have hS := Lib.hid (Sz2.new w f q 23)
  have hb1 : Hid (Below w.heap.size w (w.alloc (.cells #[.int .i64 f, .int .i64 q] 23))) := (Below.refl _ _).alloc (Nat.le_refl _) _
  have hT1 := Lib.hid ((hT.below (Nat.le_refl _) hb1.out).more hb1.out.size)
  have hs1 : w.heap.size < (w.alloc (.cells #[.int .i64 f, .int .i64 q] 23)).heap.size := by simp
  clear hT
  go_enter Try.func7, Try.ntmps7
  go_upto_region 1 with fail
  generalize w.alloc (.cells #[.int .i64 f, .int .i64 q] 23) = w1 at *
  have c0 := hS.out.c0
  have c1 := hS.out.c1
  go_wp2_with fail
  go_at_call 23
  refine (phas_hi f q bk A t c th w1 hT1.out (by omega) hv.out h1 h2).mono ?_
  rintro e w2 ⟨rfl, hb2⟩
  replace hS := Lib.hid (hS.out.next hb2)
  replace hT1 := Lib.hid ((hT1.out.below (Nat.le_refl _) hb2).more hb2.size)
  replace hb1 := Lib.hid (hb1.out.trans (hb2.mono hb1.out.size))
  replace c0 := hS.out.c0
  replace c1 := hS.out.c1
  clear hb2
  go_wp2_with fail
  go_at_call 11
  refine (rtree f q A t c w2 hT1.out (by omega) hc).mono ?_
  rw [hv.out]
  rintro e w3 ⟨rfl, hb3⟩
  replace hS := Lib.hid (hS.out.next hb3)
  replace hb1 := Lib.hid (hb1.out.trans (hb3.mono hb1.out.size))
  replace c0 := hS.out.c0
  replace c1 := hS.out.c1
  clear hb3
  go_wp2_with fail
  go_at_call 8
  refine (known_35 w3).mono ?_
  rintro e wk ⟨rfl, hbk⟩
  replace hS := Lib.hid (hS.out.next hbk)
  replace hb1 := Lib.hid (hb1.out.trans (hbk.mono hb1.out.size))
  replace c0 := hS.out.c0
  replace c1 := hS.out.c1
  clear hbk
  go_wp2_with fail
  go_ret
  exact ⟨rfl, hb1.out⟩
set_option maxRecDepth 100000 in
set_option maxHeartbeats 4000000 in
theorem has_yes (f q : Int) (bk : Bool) (A : Option Addr) (t : List Nd) (c : Nat) (th : Int) (w : World) (hT : RecAt nEnc 4 w w.heap.size A t) (hc : t.length ≤ c) (hl : (t.length : Int) ≤ 100) (hv0 : treeB f q t = true) (h1 : 1 ≤ th) (h2 : th ≤ 6) :
    Calls Try.prog 7 #[.agg #[.int .i64 f, .int .i64 q], .bool bk, .slice A t.length c, .int .i64 th] w fun e w' => e = .returned (.bool true) ∧ Below w.heap.size w w' := by
  have hfl := fnd_len f q bk t t.length
  have hv := Lib.hid hv0
  clear hv0
  have hS := Lib.hid (Sz2.new w f q 23)
  have hb1 : Hid (Below w.heap.size w (w.alloc (.cells #[.int .i64 f, .int .i64 q] 23))) := (Below.refl _ _).alloc (Nat.le_refl _) _
  have hT1 := Lib.hid ((hT.below (Nat.le_refl _) hb1.out).more hb1.out.size)
  have hs1 : w.heap.size < (w.alloc (.cells #[.int .i64 f, .int .i64 q] 23)).heap.size := by simp
  clear hT
  go_enter Try.func7, Try.ntmps7
  go_upto_region 1 with fail
  generalize w.alloc (.cells #[.int .i64 f, .int .i64 q] 23) = w1 at *
  have c0 := hS.out.c0
  have c1 := hS.out.c1
  go_wp2_with fail
  go_at_call 23
  refine (phas_yes f q bk A t c th w1 hT1.out (by omega) hv.out h1 h2).mono ?_
  rintro e w2 ⟨rfl, hb2⟩
  replace hS := Lib.hid (hS.out.next hb2)
  replace hT1 := Lib.hid ((hT1.out.below (Nat.le_refl _) hb2).more hb2.size)
  replace hb1 := Lib.hid (hb1.out.trans (hb2.mono hb1.out.size))
  replace c0 := hS.out.c0
  replace c1 := hS.out.c1
  clear hb2
  go_wp2_with fail
  go_at_call 11
  refine (rtree f q A t c w2 hT1.out (by omega) hc).mono ?_
  rw [hv.out]
  rintro e w3 ⟨rfl, hb3⟩
  replace hS := Lib.hid (hS.out.next hb3)
  replace hT1 := Lib.hid ((hT1.out.below (Nat.le_refl _) hb3).more hb3.size)
  replace hb1 := Lib.hid (hb1.out.trans (hb3.mono hb1.out.size))
  replace c0 := hS.out.c0
  replace c1 := hS.out.c1
  clear hb3
  go_wp2_with fail
  go_at_call 16
  refine (rfind f q bk A t c w3 hT1.out (by omega) hv.out).mono ?_
  rintro e w4 ⟨Ag, cg, rfl, hO⟩
  have hb4 := hO.below
  have hRg := Lib.hid (hO.recs shEnc_len)
  clear hO
  replace hS := Lib.hid (hS.out.next hb4)
  replace hb1 := Lib.hid (hb1.out.trans (hb4.mono hb1.out.size))
  replace c0 := hS.out.c0
  replace c1 := hS.out.c1
  clear hb4
  have hVV : (hasB (fnd f q bk t t.length) th == hasB (fnd f q bk t t.length) th) = true := beq_self_eq_true _
  go_wp2_with fail
  go_at_call 24
  refine (rhas Ag cg _ th w4 hRg.out (by omega)).mono ?_
  rintro e w5 ⟨rfl, rfl⟩
  go_wp2_with fail
  go_at_call 8
  refine (known_35 w4).mono ?_
  rintro e wk ⟨rfl, hbk⟩
  replace hS := Lib.hid (hS.out.next hbk)
  replace hb1 := Lib.hid (hb1.out.trans (hbk.mono hb1.out.size))
  replace c0 := hS.out.c0
  replace c1 := hS.out.c1
  clear hbk
  go_wp2_with fail
  go_ret
  exact ⟨rfl, hb1.out⟩
theorem law_has (f q : Int) (bk : Bool) (A : Option Addr) (t : List Nd) (c : Nat) (th : Int) (w : World) (hT : RecAt nEnc 4 w w.heap.size A t) (hc : t.length ≤ c) : Calls Try.prog 7 #[.agg #[.int .i64 f, .int .i64 q], .bool bk, .slice A t.length c, .int .i64 th] w fun e w' => e = .returned (.bool true) ∧ Below w.heap.size w w' := by
  by_cases hl : 100 < (t.length : Int)
  · exact has_far f q bk A t c th w hT hc hl
  · cases hv : treeB f q t with
    | false => exact has_inv f q bk A t c th w hT hc (by omega) hv
    | true =>
      by_cases h1 : th < 1
      · exact has_lo f q bk A t c th w hT hc (by omega) hv h1
      · by_cases h2 : 6 < th
        · exact has_hi f q bk A t c th w hT hc (by omega) hv (by omega) h2
        · exact has_yes f q bk A t c th w hT hc (by omega) hv (by omega) (by omega)
end Go.Proofs.Yteaclphankckiaa
