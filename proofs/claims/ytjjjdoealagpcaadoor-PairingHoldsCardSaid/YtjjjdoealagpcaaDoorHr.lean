/- Layer 43: the law of Prove and Check. -/
import Derived.Test.YtjjjdoealagpcaaDoorHp
import Derived.Test.YtjjjdoealagpcaaDoorHq
import Derived.BigRegion
import Derived.Deep.RegionHeld3
import Derived.Deep.Cut
import Derived.Deep.CutRange
namespace Go.Proofs.YtjjjdoealagpcaaDoor
open Go Go.RowKit
set_option linter.unusedSimpArgs false
set_option linter.unusedVariables false
attribute [local go_sem ↓] Go.wp_at_zero Go.wp_at_succ
theorem wf_u16 {n : Int} (h : (Lit.int .u16 n).wf = true) : 0 ≤ n ∧ n ≤ 65535 := by
  unfold Lit.wf at h
  rw [Bool.and_eq_true, decide_eq_true_eq, decide_eq_true_eq] at h
  rw [show IntKind.u16.min = 0 by rfl, show IntKind.u16.max = 65535 by rfl] at h
  exact h
theorem RM.nil (w : World) : RM w none none [] [] := ⟨fun h => absurd h (by simp), fun h => absurd h (by simp)⟩
theorem recs_tail {w : World} {g : Nat} {x : Int} {L : List Int} (h : RecAt iEnc 1 w w.heap.size (some ⟨g, 0, none⟩) (x :: L)) : RecAt iEnc 1 w w.heap.size (some ⟨g, 1, none⟩) L := fun _ => by
  obtain ⟨b, off, e, hlt, hc⟩ := h (by simp)
  simp only [Option.some.injEq, Addr.mk.injEq, and_true] at e
  obtain ⟨rfl, rfl⟩ := e
  refine ⟨g, 1, rfl, hlt, fun k y hy j u hu => ?_⟩
  have := hc (k + 1) y (by simpa using hy) j u hu
  rwa [show 0 + (k + 1) * 1 + j = 1 + k * 1 + j by omega] at this
theorem valR_nil {l : List Ent} (h : 0 < l.length) : valR l [] [] = -1 := valR_no fun a => by have := a.1; simp at this; omega
theorem certL_last {l : List Ent} (h7 : l.length ≤ 7) : oE (certL l) (2 ^ szE l - 1) = bst l (fullS l) := certL_at l (by have := Nat.two_pow_pos (szE l); omega)
/-- what is wanted of a changed certificate -/
noncomputable def wantB (l : List Ent) (bad : List Int) : Bool := certB l bad && (oE bad (2 ^ szE l - 1) == bst l (fullS l))
theorem chk_want {l : List Ent} (h7 : l.length ≤ 7) (hok : ∀ x ∈ l, numOk x) (hn : bst l (fullS l) ≠ -1) (bad : List Int) : chkE l (resO l) (resW l) bad = if wantB l bad = true then 0 else 10 := by
  rcases best_is h7 hok with ⟨h1, _⟩ | ⟨h1, _, h3, h4, _⟩
  · exact absurd h1 hn
  have hv : valR l (resO l) (resW l) = bst l (fullS l) := by rw [← h4]; exact h3
  by_cases h : wantB l bad = true
  · rw [if_pos h]
    unfold wantB at h
    rw [Bool.and_eq_true, beq_iff_eq] at h
    exact chkE_yes ⟨by rw [hv]; exact hn, certB_iff.1 h.1, by rw [hv]; exact h.2⟩
  · rw [if_neg h]
    refine chkE_no fun hh => h ?_
    unfold wantB
    rw [Bool.and_eq_true, beq_iff_eq]
    exact ⟨certB_yes hh.2.1, by rw [hh.2.2, hv]⟩
set_option maxRecDepth 100000 in
set_option maxHeartbeats 8000000 in
theorem pr_few (A : Option Addr) (l : List Ent) (c : Nat) (O : Option Addr) (o : List Int) (co : Nat) (V : Option Addr) (v : List Bool) (cv : Nat) (a : Nat) (y : Int) (w : World) (hG : FI w A l c) (hM : RM w O V o v) (ha : a ≤ 65535) (hT : TabOK w) (hf : ¬ fewP l) : Calls Tryd.prog 7 #[.slice A l.length c, .agg #[.slice O o.length co, .slice V v.length cv], .int .u16 (a : Int), .int .i64 y] w fun e w' => e = .returned (.bool true) ∧ Below w.heap.size w w' := by
  have hfe : Hid (∀ W, Below w.heap.size w W → Calls Tryd.prog 12 #[.slice A l.length c] W fun e w' => e = .returned (.bool (fewB l)) ∧ W = w') := fun W h => lfew A l c W (hG.next h)
  have hK : Hid (∀ W, Below w.heap.size w W → Calls Tryd.prog 9 #[] W fun e w' => e = .returned (.bool true) ∧ Below W.heap.size W w') := fun W h => known_43 W (hT.next h)
  have hX := Lib.hid (RB.new w (.slice O o.length co) (.slice V v.length cv))
  have hb : Hid (Below w.heap.size w (w.alloc (.cells #[.slice O o.length co, .slice V v.length cv] 30))) := (Below.refl _ _).alloc (Nat.le_refl _) _
  rw [fewB_no hf] at hfe
  clear hG hM hT hf
  go_enter Tryd.func7, Tryd.ntmps7
  go_upto_region 1 with fail
  generalize w.heap.size = B0 at hX ⊢
  generalize w.alloc (.cells #[.slice O o.length co, .slice V v.length cv] 30) = u at *
  have x0 := hX.out.c0
  have x1 := hX.out.c1
  go_wp2_with fail
  go_at_call 12
  refine (hfe.out _ hb.out).mono ?_
  rintro e u9 ⟨rfl, rfl⟩
  clear hfe
  go_wp2_with fail
  go_at_call 9
  refine (hK.out _ hb.out).mono ?_
  rintro e u ⟨rfl, hbn⟩
  replace hX := Lib.hid (hX.out.next hbn)
  replace hb := Lib.hid (hb.out.trans (hbn.mono hb.out.size))
  clear hbn
  clear x0 x1
  have x0 := hX.out.c0
  have x1 := hX.out.c1
  go_wp2_with fail
  go_ret
  exact ⟨rfl, hb.out⟩
set_option maxRecDepth 100000 in
set_option maxHeartbeats 8000000 in
theorem pr_o (A : Option Addr) (l : List Ent) (c : Nat) (O : Option Addr) (o : List Int) (co : Nat) (V : Option Addr) (v : List Bool) (cv : Nat) (a : Nat) (y : Int) (w : World) (hG : FI w A l c) (hM : RM w O V o v) (ha : a ≤ 65535) (hT : TabOK w) (hf : fewP l) (h8 : 8 < o.length) : Calls Tryd.prog 7 #[.slice A l.length c, .agg #[.slice O o.length co, .slice V v.length cv], .int .u16 (a : Int), .int .i64 y] w fun e w' => e = .returned (.bool true) ∧ Below w.heap.size w w' := by
  have hfe : Hid (∀ W, Below w.heap.size w W → Calls Tryd.prog 12 #[.slice A l.length c] W fun e w' => e = .returned (.bool (fewB l)) ∧ W = w') := fun W h => lfew A l c W (hG.next h)
  have hK : Hid (∀ W, Below w.heap.size w W → Calls Tryd.prog 9 #[] W fun e w' => e = .returned (.bool true) ∧ Below W.heap.size W w') := fun W h => known_43 W (hT.next h)
  have hX := Lib.hid (RB.new w (.slice O o.length co) (.slice V v.length cv))
  have hb : Hid (Below w.heap.size w (w.alloc (.cells #[.slice O o.length co, .slice V v.length cv] 30))) := (Below.refl _ _).alloc (Nat.le_refl _) _
  rw [fewB_yes hf] at hfe
  have q1 : (8 : Int) < (o.length : Int) := by omega
  clear hG hM hT hf
  go_enter Tryd.func7, Tryd.ntmps7
  go_upto_region 1 with fail
  generalize w.heap.size = B0 at hX ⊢
  generalize w.alloc (.cells #[.slice O o.length co, .slice V v.length cv] 30) = u at *
  have x0 := hX.out.c0
  have x1 := hX.out.c1
  go_wp2_with fail
  go_at_call 12
  refine (hfe.out _ hb.out).mono ?_
  rintro e u9 ⟨rfl, rfl⟩
  clear hfe
  go_wp2_with fail
  go_at_call 9
  refine (hK.out _ hb.out).mono ?_
  rintro e u ⟨rfl, hbn⟩
  replace hX := Lib.hid (hX.out.next hbn)
  replace hb := Lib.hid (hb.out.trans (hbn.mono hb.out.size))
  clear hbn
  clear x0 x1
  have x0 := hX.out.c0
  have x1 := hX.out.c1
  go_wp2_with fail
  go_ret
  exact ⟨rfl, hb.out⟩
set_option maxRecDepth 100000 in
set_option maxHeartbeats 8000000 in
theorem pr_v (A : Option Addr) (l : List Ent) (c : Nat) (O : Option Addr) (o : List Int) (co : Nat) (V : Option Addr) (v : List Bool) (cv : Nat) (a : Nat) (y : Int) (w : World) (hG : FI w A l c) (hM : RM w O V o v) (ha : a ≤ 65535) (hT : TabOK w) (hf : fewP l) (h8 : ¬ 8 < o.length) (h9 : 8 < v.length) : Calls Tryd.prog 7 #[.slice A l.length c, .agg #[.slice O o.length co, .slice V v.length cv], .int .u16 (a : Int), .int .i64 y] w fun e w' => e = .returned (.bool true) ∧ Below w.heap.size w w' := by
  have hfe : Hid (∀ W, Below w.heap.size w W → Calls Tryd.prog 12 #[.slice A l.length c] W fun e w' => e = .returned (.bool (fewB l)) ∧ W = w') := fun W h => lfew A l c W (hG.next h)
  have hK : Hid (∀ W, Below w.heap.size w W → Calls Tryd.prog 9 #[] W fun e w' => e = .returned (.bool true) ∧ Below W.heap.size W w') := fun W h => known_43 W (hT.next h)
  have hX := Lib.hid (RB.new w (.slice O o.length co) (.slice V v.length cv))
  have hb : Hid (Below w.heap.size w (w.alloc (.cells #[.slice O o.length co, .slice V v.length cv] 30))) := (Below.refl _ _).alloc (Nat.le_refl _) _
  rw [fewB_yes hf] at hfe
  have q1 : ¬ (8 : Int) < (o.length : Int) := by omega
  have q2 : (8 : Int) < (v.length : Int) := by omega
  clear hG hM hT hf
  go_enter Tryd.func7, Tryd.ntmps7
  go_upto_region 1 with fail
  generalize w.heap.size = B0 at hX ⊢
  generalize w.alloc (.cells #[.slice O o.length co, .slice V v.length cv] 30) = u at *
  have x0 := hX.out.c0
  have x1 := hX.out.c1
  go_wp2_with fail
  go_at_call 12
  refine (hfe.out _ hb.out).mono ?_
  rintro e u9 ⟨rfl, rfl⟩
  clear hfe
  go_wp2_with fail
  go_at_call 9
  refine (hK.out _ hb.out).mono ?_
  rintro e u ⟨rfl, hbn⟩
  replace hX := Lib.hid (hX.out.next hbn)
  replace hb := Lib.hid (hb.out.trans (hbn.mono hb.out.size))
  clear hbn
  clear x0 x1
  have x0 := hX.out.c0
  have x1 := hX.out.c1
  go_wp2_with fail
  go_ret
  exact ⟨rfl, hb.out⟩
set_option maxRecDepth 100000 in
set_option maxHeartbeats 8000000 in
theorem pr_inv (A : Option Addr) (l : List Ent) (c : Nat) (O : Option Addr) (o : List Int) (co : Nat) (V : Option Addr) (v : List Bool) (cv : Nat) (a : Nat) (y : Int) (w : World) (hG : FI w A l c) (hM : RM w O V o v) (ha : a ≤ 65535) (hT : TabOK w) (hf : fewP l) (h8 : ¬ 8 < o.length) (h9 : ¬ 8 < v.length) (hv : ¬ okF l) : Calls Tryd.prog 7 #[.slice A l.length c, .agg #[.slice O o.length co, .slice V v.length cv], .int .u16 (a : Int), .int .i64 y] w fun e w' => e = .returned (.bool true) ∧ Below w.heap.size w w' := by
  have hfe : Hid (∀ W, Below w.heap.size w W → Calls Tryd.prog 12 #[.slice A l.length c] W fun e w' => e = .returned (.bool (fewB l)) ∧ W = w') := fun W h => lfew A l c W (hG.next h)
  have hK : Hid (∀ W, Below w.heap.size w W → Calls Tryd.prog 9 #[] W fun e w' => e = .returned (.bool true) ∧ Below W.heap.size W w') := fun W h => known_43 W (hT.next h)
  have hX := Lib.hid (RB.new w (.slice O o.length co) (.slice V v.length cv))
  have hb : Hid (Below w.heap.size w (w.alloc (.cells #[.slice O o.length co, .slice V v.length cv] 30))) := (Below.refl _ _).alloc (Nat.le_refl _) _
  have q1 : ¬ (8 : Int) < (o.length : Int) := by omega
  have q2 : ¬ (8 : Int) < (v.length : Int) := by omega
  rw [fewB_yes hf] at hfe
  have hF := hG.few hf
  have h7 := hf.2
  have hVd : Hid (∀ W, Below w.heap.size w W → Calls Tryd.prog 11 #[.slice A l.length c] W fun e w' => e = .returned (.bool false) ∧ Below W.heap.size W w') := fun W h => fB_false hv ▸ (hF.next h).lvalid
  have hP : Hid (∀ W, Below w.heap.size w W → Calls Tryd.prog 25 #[.slice A l.length c] W fun e w' => e = .returned (.tuple #[.slice none 0 0, .int .i64 2]) ∧ Below W.heap.size W w') := fun W h => pProve_bad A l c W (hF.next h) hv
  have hCk : Hid (∀ W, Below w.heap.size w W → Calls Tryd.prog 26 #[.slice A l.length c, .agg #[.slice O o.length co, .slice V v.length cv], .slice none 0 0] W fun e w' => e = .returned (.int .i64 2) ∧ Below W.heap.size W w') := fun W h => pCheck_inv A O V none l o v [] c co cv 0 W (hF.next h) (hM.next h) (fun h => absurd h (by simp)) (by omega) (by omega) (by simp) hv
  clear hG hM hT hf hF hv
  go_enter Tryd.func7, Tryd.ntmps7
  go_upto_region 1 with fail
  generalize w.heap.size = B0 at hX ⊢
  generalize w.alloc (.cells #[.slice O o.length co, .slice V v.length cv] 30) = u at *
  have x0 := hX.out.c0
  have x1 := hX.out.c1
  go_wp2_with fail
  go_at_call 12
  refine (hfe.out _ hb.out).mono ?_
  rintro e u9 ⟨rfl, rfl⟩
  clear hfe
  go_wp2_with fail
  go_at_call 25
  refine (hP.out _ hb.out).mono ?_
  rintro e u ⟨rfl, hbn⟩
  replace hX := Lib.hid (hX.out.next hbn)
  replace hb := Lib.hid (hb.out.trans (hbn.mono hb.out.size))
  clear hbn
  clear x0 x1
  have x0 := hX.out.c0
  have x1 := hX.out.c1
  go_wp2_with fail
  go_at_call 11
  refine (hVd.out _ hb.out).mono ?_
  rintro e u ⟨rfl, hbn⟩
  replace hX := Lib.hid (hX.out.next hbn)
  replace hb := Lib.hid (hb.out.trans (hbn.mono hb.out.size))
  clear hbn
  clear x0 x1
  have x0 := hX.out.c0
  have x1 := hX.out.c1
  go_wp2_with fail
  go_at_call 26
  refine (hCk.out _ hb.out).mono ?_
  rintro e u ⟨rfl, hbn⟩
  replace hX := Lib.hid (hX.out.next hbn)
  replace hb := Lib.hid (hb.out.trans (hbn.mono hb.out.size))
  clear hbn
  clear x0 x1
  have x0 := hX.out.c0
  have x1 := hX.out.c1
  go_wp2_with fail
  go_at_call 9
  refine (hK.out _ hb.out).mono ?_
  rintro e u ⟨rfl, hbn⟩
  replace hX := Lib.hid (hX.out.next hbn)
  replace hb := Lib.hid (hb.out.trans (hbn.mono hb.out.size))
  clear hbn
  clear x0 x1
  have x0 := hX.out.c0
  have x1 := hX.out.c1
  go_wp2_with fail
  go_ret
  exact ⟨rfl, hb.out⟩
set_option maxRecDepth 100000 in
set_option maxHeartbeats 8000000 in
theorem pr_no (A : Option Addr) (l : List Ent) (c : Nat) (O : Option Addr) (o : List Int) (co : Nat) (V : Option Addr) (v : List Bool) (cv : Nat) (a : Nat) (y : Int) (w : World) (hG : FI w A l c) (hM : RM w O V o v) (ha : a ≤ 65535) (hT : TabOK w) (hf : fewP l) (h8 : ¬ 8 < o.length) (h9 : ¬ 8 < v.length) (hv : okF l) (hn : bst l (fullS l) = -1) : Calls Tryd.prog 7 #[.slice A l.length c, .agg #[.slice O o.length co, .slice V v.length cv], .int .u16 (a : Int), .int .i64 y] w fun e w' => e = .returned (.bool true) ∧ Below w.heap.size w w' := by
  have hfe : Hid (∀ W, Below w.heap.size w W → Calls Tryd.prog 12 #[.slice A l.length c] W fun e w' => e = .returned (.bool (fewB l)) ∧ W = w') := fun W h => lfew A l c W (hG.next h)
  have hK : Hid (∀ W, Below w.heap.size w W → Calls Tryd.prog 9 #[] W fun e w' => e = .returned (.bool true) ∧ Below W.heap.size W w') := fun W h => known_43 W (hT.next h)
  have hX := Lib.hid (RB.new w (.slice O o.length co) (.slice V v.length cv))
  have hb : Hid (Below w.heap.size w (w.alloc (.cells #[.slice O o.length co, .slice V v.length cv] 30))) := (Below.refl _ _).alloc (Nat.le_refl _) _
  have q1 : ¬ (8 : Int) < (o.length : Int) := by omega
  have q2 : ¬ (8 : Int) < (v.length : Int) := by omega
  rw [fewB_yes hf] at hfe
  have hF := hG.few hf
  have h7 := hf.2
  have hVd : Hid (∀ W, Below w.heap.size w W → Calls Tryd.prog 11 #[.slice A l.length c] W fun e w' => e = .returned (.bool true) ∧ Below W.heap.size W w') := fun W h => fB_true hv ▸ (hF.next h).lvalid
  obtain ⟨N, hN⟩ : ∃ N, 2 ^ szE l = N := ⟨_, rfl⟩
  have hN256 : N ≤ 256 := by rw [← hN]; exact full_lt (szE_le h7).1
  have hl2 : 0 < l.length := by have := hv.1; omega
  have hN4 : 4 ≤ N := by
    have h1 : 2 ^ 2 ≤ 2 ^ szE l := Nat.pow_le_pow_right (show 2 > 0 by decide) (by have h2 : szE l = l.length + l.length % 2 := rfl; have := hv.1; omega)
    omega
  have hLc : Hid ((certL l).length = N) := (certL_len l).trans hN
  obtain ⟨R, hR⟩ : ∃ R, N - 1 = R := ⟨_, rfl⟩
  have gR : IntKind.i64.wrap ((N : Int) - 1) = (R : Int) := by rw [show (N : Int) - 1 = (R : Int) by omega]; exact i64_nat (by omega)
  have hRN : (R : Int) < (N : Int) := by omega
  have hR0 : (0 : Int) ≤ (R : Int) := Int.natCast_nonneg _
  have hcok := certL_ok h7 hv.num
  have hlast := certL_last h7 (l := l)
  rw [hN, hR] at hlast
  have hBe := hn
  rw [hBe] at hlast
  have hP : Hid (∀ W, Below w.heap.size w W → Calls Tryd.prog 25 #[.slice A l.length c] W fun e w' => (∃ Br : Nat, e = .returned (.tuple #[.slice (some ⟨Br, 0, none⟩) N N, .int .i64 0]) ∧ IRow w' Br 3 (certL l)) ∧ Below W.heap.size W w') := fun W h => (pProve A l c W (hF.next h) hv h7 (hT.next h)).mono fun e w' hq => ⟨by have h1 := hq.out; rwa [hN] at h1, hq.below⟩
  have hBs : Hid (∀ W, Below w.heap.size w W → Calls Tryd.prog 14 #[.slice A l.length c] W fun e w' => e = .returned (.tuple #[.agg #[.slice none 0 0, .slice none 0 0], .int .i64 (-1)]) ∧ Below W.heap.size W w') := fun W h => (lBest A l c W (hF.next h) hv h7).mono fun e w' hq => ⟨hq.no hn, hq.below⟩
  obtain ⟨K, hKe⟩ : ∃ K, valR l o v = K := ⟨_, rfl⟩
  have hKb : K = -1 ∨ 0 ≤ K := by rw [← hKe]; exact valR_bd hv.num
  have hLv : Hid (∀ W, Below w.heap.size w W → Calls Tryd.prog 23 #[.slice A l.length c, .agg #[.slice O o.length co, .slice V v.length cv]] W fun e w' => e = .returned (.int .i64 K) ∧ Below W.heap.size W w') := fun W h => hKe ▸ lvalue A O V l o v c co cv W (hF.next h) hv (hM.next h) (by omega) (by omega)
  have hE3 : Hid (chkE l o v (certL l) = if K ≠ -1 ∧ K = (-1) then 0 else 10) := by
    show _ = _
    by_cases h : K ≠ -1 ∧ K = (-1)
    · rw [if_pos h]
      exact chkE_yes ⟨by rw [hKe]; exact h.1, hcok, by rw [hN, hR, hlast, hKe]; exact h.2.symm⟩
    · rw [if_neg h]
      refine chkE_no fun hh => h ?_
      have h1 := hh.1
      have h2 := hh.2.2
      rw [hN, hR, hlast, hKe] at h2
      rw [hKe] at h1
      exact ⟨h1, h2.symm⟩
  have hFH := Lib.hid hF
  have hvH := Lib.hid hv
  have hTH := Lib.hid hT
  have hMH := Lib.hid hM
  have hNH := Lib.hid hN
  have hRH := Lib.hid hR
  have hcokH := Lib.hid hcok
  have hlastH := Lib.hid hlast
  have hBeH := Lib.hid hBe
  have hCk : Hid (∀ (W : World) (O2 V2 C2 : Option Addr) (o2 : List Int) (v2 : List Bool) (cc : List Int) (co2 cv2 cq : Nat), Below w.heap.size w W → RM W O2 V2 o2 v2 → RecAt iEnc 1 W W.heap.size C2 cc → o2.length ≤ 100000 → v2.length ≤ 100000 → cc.length ≤ 100000 → Calls Tryd.prog 26 #[.slice A l.length c, .agg #[.slice O2 o2.length co2, .slice V2 v2.length cv2], .slice C2 cc.length cq] W fun e w' => e = .returned (.int .i64 (chkE l o2 v2 cc)) ∧ Below W.heap.size W w') := fun W O2 V2 C2 o2 v2 cc co2 cv2 cq hW h1 h2 h3 h4 h5 => pCheck A O2 V2 C2 l o2 v2 cc c co2 cv2 cq W (hFH.out.next hW) h1 h2 h3 h4 h5 hvH.out h7 (hTH.out.next hW)
  have hCt : Hid (∀ (W : World) (C2 : Option Addr) (cc : List Int) (cq : Nat), Below w.heap.size w W → RecAt iEnc 1 W W.heap.size C2 cc → cc.length ≤ 100000 → Calls Tryd.prog 27 #[.slice A l.length c, .slice C2 cc.length cq] W fun e w' => e = .returned (.bool (certB l cc)) ∧ Below W.heap.size W w') := fun W C2 cc cq hW h1 h2 => lcert A C2 l cc c cq W (hFH.out.next hW) hvH.out h7 h1 h2
  clear hG hM hT hf hF hv hn hN hR hcok hlast hBe hKe
  go_enter Tryd.func7, Tryd.ntmps7
  go_upto_region 1 with fail
  generalize w.heap.size = B0 at hX ⊢
  generalize w.alloc (.cells #[.slice O o.length co, .slice V v.length cv] 30) = u at *
  have x0 := hX.out.c0
  have x1 := hX.out.c1
  go_wp2_with fail
  go_at_call 12
  refine (hfe.out _ hb.out).mono ?_
  rintro e u9 ⟨rfl, rfl⟩
  clear hfe
  go_wp2_with fail
  go_at_call 25
  refine (hP.out _ hb.out).mono ?_
  rintro e u ⟨hpr, hbn⟩
  obtain ⟨Br, rfl, hIc⟩ := hpr
  replace hIc := Lib.hid hIc
  replace hX := Lib.hid (hX.out.next hbn)
  replace hb := Lib.hid (hb.out.trans (hbn.mono hb.out.size))
  clear hbn
  clear x0 x1
  have x0 := hX.out.c0
  have x1 := hX.out.c1
  clear hP
  go_wp2_with fail
  go_at_call 11
  refine (hVd.out _ hb.out).mono ?_
  rintro e u ⟨rfl, hbn⟩
  replace hX := Lib.hid (hX.out.next hbn)
  replace hIc := Lib.hid (hIc.out.next hbn)
  replace hb := Lib.hid (hb.out.trans (hbn.mono hb.out.size))
  clear hbn
  clear x0 x1
  have x0 := hX.out.c0
  have x1 := hX.out.c1
  go_wp2_with fail
  go_at_call 14
  refine (hBs.out _ hb.out).mono ?_
  rintro e u ⟨rfl, hbn⟩
  replace hX := Lib.hid (hX.out.next hbn)
  replace hIc := Lib.hid (hIc.out.next hbn)
  replace hb := Lib.hid (hb.out.trans (hbn.mono hb.out.size))
  clear hbn
  clear x0 x1
  have x0 := hX.out.c0
  have x1 := hX.out.c1
  have hMw := Lib.hid (RM.nil u)
  have hbn : Below u.heap.size u (u.alloc (.cells #[.slice none 0 0, .slice none 0 0] 30)) := (Below.refl _ _).alloc (Nat.le_refl _) _
  have hY := Lib.hid (RB.new u (.slice none 0 0) (.slice none 0 0))
  replace hX := Lib.hid (hX.out.next hbn)
  replace hIc := Lib.hid (hIc.out.next hbn)
  replace hMw := Lib.hid (hMw.out.next hbn)
  replace hb := Lib.hid (hb.out.trans (hbn.mono hb.out.size))
  clear hbn x0 x1 hBs hVd
  go_upto_region 7 with fail
  generalize u.heap.size = B1 at hY ⊢
  generalize u.alloc (.cells #[.slice none 0 0, .slice none 0 0] 30) = u1 at *
  clear u
  obtain ⟨u, hu⟩ : ∃ u, u = u1 := ⟨_, rfl⟩
  subst hu
  have x0 := hX.out.c0
  have x1 := hX.out.c1
  have y0 := hY.out.c0
  have y1 := hY.out.c1
  have hgL : Hid ((certL l)[R]? = some (-1)) := by
    have h1 : (certL l)[R]? = some ((certL l)[R]'(by have := hLc.out; omega)) := List.getElem?_eq_getElem _
    have h2 := oE_eq h1
    rw [hlastH.out] at h2
    show (certL l)[R]? = some (-1)
    rw [h1, ← h2]
  have hc1 : Hid (Calls Tryd.prog 27 #[.slice A l.length c, .slice (some ⟨Br, 0, none⟩) N N] u fun e w' => e = .returned (.bool true) ∧ Below u.heap.size u w') := by
    have h1 := hCt.out u (some ⟨Br, 0, none⟩) (certL l) N hb.out hIc.out.recs (by have := hLc.out; omega)
    rw [hLc.out, certB_yes hcokH.out] at h1
    exact h1
  go_wp2_with fail
  go_at_call 27
  refine (hc1.out).mono ?_
  rintro e u ⟨rfl, hbn⟩
  replace hX := Lib.hid (hX.out.next hbn)
  replace hIc := Lib.hid (hIc.out.next hbn)
  replace hMw := Lib.hid (hMw.out.next hbn)
  replace hY := Lib.hid (hY.out.next hbn)
  replace hb := Lib.hid (hb.out.trans (hbn.mono hb.out.size))
  clear hbn
  clear x0 x1
  have x0 := hX.out.c0
  have x1 := hX.out.c1
  clear y0 y1
  have y0 := hY.out.c0
  have y1 := hY.out.c1
  clear hc1
  have z1 := hIc.out.cell hgL.out
  go_wp2_with fail
  go_at_call 23
  refine (hLv.out _ hb.out).mono ?_
  rintro e u ⟨rfl, hbn⟩
  replace hX := Lib.hid (hX.out.next hbn)
  replace hIc := Lib.hid (hIc.out.next hbn)
  replace hMw := Lib.hid (hMw.out.next hbn)
  replace hY := Lib.hid (hY.out.next hbn)
  replace hb := Lib.hid (hb.out.trans (hbn.mono hb.out.size))
  clear hbn
  clear x0 x1
  have x0 := hX.out.c0
  have x1 := hX.out.c1
  clear y0 y1
  have y0 := hY.out.c0
  have y1 := hY.out.c1
  clear hLv
  clear z1
  go_upto_region 12 with fail
  have hc3 : Hid (Calls Tryd.prog 26 #[.slice A l.length c, .agg #[.slice O o.length co, .slice V v.length cv], .slice (some ⟨Br, 0, none⟩) N N] u fun e w' => e = .returned (.int .i64 (if K ≠ -1 ∧ K = (-1) then 0 else 10)) ∧ Below u.heap.size u w') := by
    have h1 := hCk.out u O V (some ⟨Br, 0, none⟩) o v (certL l) co cv N hb.out (hMH.out.next hb.out) hIc.out.recs (by omega) (by omega) (by have := hLc.out; omega)
    rw [hLc.out, hE3.out] at h1
    exact h1
  go_cut [105] from 93 to 105 (fun s105 wc => s105 = .bool false ∧ Hid (RB wc B1 (.slice none 0 0) (.slice none 0 0)) ∧ Hid (IRow wc Br 3 (certL l)) ∧ Hid (RM wc none none [] []) ∧ Hid (Below w.heap.size w wc))
  case first =>
    by_cases hm : K = -1
    · rw [if_neg (fun h => h.1 hm)] at hc3
      have k0 : (0 ≤ K) = False := eq_false (by omega)
      clear hm
      go_wp2_with fail
      go_at_call 26
      refine hc3.out.mono ?_
      rintro e u9 ⟨rfl, hbn⟩
      have k1 := Lib.hid (hY.out.next hbn)
      have k2 := Lib.hid (hIc.out.next hbn)
      have k3 := Lib.hid (hMw.out.next hbn)
      have k4 := Lib.hid (hb.out.trans (hbn.mono hb.out.size))
      clear hbn hc3
      go_wp2_with fail
      go_meet
      exact ⟨rfl, k1, k2, k3, k4⟩
    · rw [if_neg (fun h => hm h.2)] at hc3
      have k0 : (0 ≤ K) = True := eq_true (by omega)
      have k9 : (K == -1) = false := by rw [beq_eq_false_iff_ne]; exact hm
      clear hm
      go_wp2_with fail
      go_at_call 26
      refine hc3.out.mono ?_
      rintro e u9 ⟨rfl, hbn⟩
      have k1 := Lib.hid (hY.out.next hbn)
      have k2 := Lib.hid (hIc.out.next hbn)
      have k3 := Lib.hid (hMw.out.next hbn)
      have k4 := Lib.hid (hb.out.trans (hbn.mono hb.out.size))
      clear hbn hc3
      go_wp2_with fail
      go_meet
      exact ⟨rfl, k1, k2, k3, k4⟩
  case rest =>
    clear hc3 hY hIc hMw hb x0 x1 y0 y1 hX hE3 hKb
    obtain ⟨rfl, hY, hIc, hMw, hb⟩ := hcut
    obtain ⟨u2, hu2⟩ : ∃ u2, u2 = wc := ⟨_, rfl⟩
    subst hu2
    go_upto_region 14 with fail
    go_upto_region 15 with (at_builtin; refine wpList_append_recs intRow iEnc_len iEnc_one rfl _ _ rfl u2.heap.size none 0 [] rfl owns_nil (some ⟨Br, 0, none⟩) N (certL l) (by rw [hLc.out]; rfl) hIc.out.recs (by simp only [List.length_nil]; have := hLc.out; omega) (Nat.le_refl _) ?_; intro A2 c2 w2 hown hg _; rw [List.nil_append] at hown; rw [show ([] ++ certL l : List Int).length = N from by rw [List.nil_append]; exact hLc.out]; have hO : Hid (O1 iEnc 1 u2.heap.size 3 u2 w2 A2 c2 (certL l)) := (O1.nil (Below.refl _ _) (Nat.le_refl _)).app hown hg; clear hown hg)
    obtain ⟨g, rfl, hg1, hg2⟩ := hO.out.form (by have := hLc.out; omega)
    have hcap : N ≤ c2 := by have := own_cap hO.out.own (by have := hLc.out; omega); have := hLc.out; omega
    obtain ⟨I, hI⟩ : ∃ I, a % N = I := ⟨_, rfl⟩
    have hIN : I < N := by rw [← hI]; exact Nat.mod_lt _ (by omega)
    have m1 : IntKind.i64.wrap (a : Int) = (a : Int) := i64_nat (by omega)
    have m2 : (a : Int).tmod (N : Int) = (I : Int) := by rw [← hI]; rfl
    have m3 : IntKind.i64.wrap (I : Int) = (I : Int) := i64_nat (by omega)
    have m4 : (I : Int) < (N : Int) := by omega
    have m5 : (0 : Int) ≤ (I : Int) := Int.natCast_nonneg _
    have m6 : ((N : Int) == 0) = false := by rw [beq_eq_false_iff_ne]; omega
    have m7 : ((N : Int) = 0) = False := eq_false (by omega)
    have m8 : (N = 0) = False := eq_false (by omega)
    obtain ⟨x, hx⟩ : ∃ x, (certL l)[I]? = some x := ⟨_, List.getElem?_eq_getElem (by have := hLc.out; omega)⟩
    have q0 := hO.out.cell1 (g := fun x => Value.int .i64 x) (fun _ => rfl) hx
    have q3 := World.ownsRow.frozenAt hO.out.own I
    have hO2 : Hid (O1 iEnc 1 u2.heap.size 3 u2 (w2.setCell ⟨g, I, none⟩ (.int .i64 y)) (some ⟨g, 0, none⟩) c2 ((certL l).set I y)) := hO.out.set1 (g := fun x => Value.int .i64 x) (fun _ => rfl) I y rfl
    clear hI hx hO
    go_upto_region 16 with fail
    clear q0 q3 m1 m2 m3 m4 m5 m6 m7 m8
    generalize w2.setCell ⟨g, I, none⟩ (.int .i64 y) = u3 at *
    have hbn := hO2.out.below
    have hRb := Lib.hid (hO2.out.recs iEnc_len)
    clear hO2
    replace hY := Lib.hid (hY.out.next hbn)
    replace hMw := Lib.hid (hMw.out.next hbn)
    replace hb := Lib.hid (hb.out.trans (hbn.mono hb.out.size))
    clear hbn hIc
    obtain ⟨bad, hbad⟩ : ∃ bad, (certL l).set I y = bad := ⟨_, rfl⟩
    have hbl : Hid (bad.length = N) := by show bad.length = N; rw [← hbad, List.length_set]; exact hLc.out
    rw [hbad] at hRb
    clear hbad
    go_upto_region 17 with fail
    obtain ⟨u4, hu4⟩ : ∃ u4, u4 = u3 := ⟨_, rfl⟩
    subst hu4
    have y0 := hY.out.c0
    have y1 := hY.out.c1
    have hc5 : Hid (∀ W, Below u4.heap.size u4 W → Calls Tryd.prog 26 #[.slice A l.length c, .agg #[.slice none 0 0, .slice none 0 0], .slice (some ⟨g, 0, none⟩) N c2] W fun e w' => e = .returned (.int .i64 10) ∧ Below W.heap.size W w') := fun W h => by
      have h1 := hCk.out W _ _ (some ⟨g, 0, none⟩) _ _ bad 0 0 c2 (hb.out.trans (h.mono hb.out.size)) (hMw.out.next h) (recs_next hRb.out h) (by simp) (by simp) (by have := hbl.out; omega)
      rw [hbl.out, chkE_no (fun hh => hh.1 (valR_nil hl2))] at h1
      exact h1
    obtain ⟨b0, bs, hbs⟩ : ∃ b0 bs, bad = b0 :: bs := by
      cases hh : bad with
      | nil => have := hbl.out; rw [hh] at this; simp at this; omega
      | cons b0 bs => exact ⟨b0, bs, rfl⟩
    have hbsl : Hid (bs.length = N - 1) := by show _ = _; have := hbl.out; rw [hbs] at this; simp at this; omega
    have hRt : Hid (RecAt iEnc 1 u4 u4.heap.size (some ⟨g, 1, none⟩) bs) := recs_tail (by have := hRb.out; rwa [hbs] at this)
    have hc6 : Hid (∀ W, Below u4.heap.size u4 W → Calls Tryd.prog 26 #[.slice A l.length c, .agg #[.slice none 0 0, .slice none 0 0], .slice (some ⟨g, 1, none⟩) (N - 1) (c2 - 1)] W fun e w' => e = .returned (.int .i64 10) ∧ Below W.heap.size W w') := fun W h => by
      have h1 := hCk.out W _ _ (some ⟨g, 1, none⟩) _ _ bs 0 0 (c2 - 1) (hb.out.trans (h.mono hb.out.size)) (hMw.out.next h) (recs_next hRt.out h) (by simp) (by simp) (by have := hbsl.out; omega)
      rw [hbsl.out, chkE_no (fun hh => by have h2 := hh.2.1.1; rw [hNH.out, hbsl.out] at h2; omega)] at h1
      exact h1
    have hc7 : Hid (∀ W, Below u4.heap.size u4 W → Calls Tryd.prog 26 #[.slice A l.length c, .agg #[.slice none 0 0, .slice none 0 0], .slice none 0 0] W fun e w' => e = .returned (.int .i64 10) ∧ Below W.heap.size W w') := fun W h => by
      have h1 := hCk.out W _ _ none _ _ [] 0 0 0 (hb.out.trans (h.mono hb.out.size)) (hMw.out.next h) (fun h => absurd h (by simp)) (by simp) (by simp) (by simp)
      rw [chkE_no (fun hh => by have h2 := hh.2.1.1; rw [hNH.out] at h2; simp at h2; omega)] at h1
      exact h1
    clear hMw hRb hRt hbs hMH hFH hCk hCt hbl hLc
    go_wp2_with fail
    go_at_call 26
    refine (hc5.out _ (Below.refl _ _)).mono ?_
    rintro e u5 ⟨rfl, hbn⟩
    have hb5 := Lib.hid hbn
    replace hY := Lib.hid (hY.out.next hbn)
    clear hbn y0 y1 hc5
    have hS : Hid (∀ W, Below u5.heap.size u5 W → W.cell? ⟨B1, 0, none⟩ = some (.slice none 0 0) ∧ W.cell? ⟨B1, 1, none⟩ = some (.slice none 0 0)) := fun W h => ⟨(hY.out.next h).c0, (hY.out.next h).c1⟩
    have p1 : (c2 = 1) = False := eq_false (by omega)
    have p2 : (c2 - 1 = 0) = False := eq_false (by omega)
    have p3 : (1 : Int) ≤ (N : Int) := by omega
    have p4 : 1 ≤ N := by omega
    have p5 : N ≤ c2 := hcap
    have p6 : (N : Int) ≤ (c2 : Int) := by omega
    go_upto_region 18 with fail
    refine wp_region_held_drew (S := fun W => W.cell? ⟨B1, 0, none⟩ = some (.slice none 0 0) ∧ W.cell? ⟨B1, 1, none⟩ = some (.slice none 0 0)) (by kernel_rfl) (hS.out _ ((Below.refl _ _).drew)) (fun hHeld => ?_)
    refine wpAnyH_take (i := 0) (v := ?_) rfl (by kernel_rfl) (by kernel_rfl) (by kernel_rfl) (fun _ _ _ h => h) (Or.inl ⟨by rfl, ?_⟩) hHeld ?_
    rotate_left
    · intro W9 hSw; (try dsimp only at hSw); go_simp; (try with_reducible rfl)
    simp only [Act.put, List.getElem_toArray, List.getElem_cons_zero, List.getElem_cons_succ, List.setIfInBounds_toArray, List.set_cons_zero, List.set_cons_succ]
    refine wpAnyH_take (i := 1) (v := ?_) rfl (by kernel_rfl) (by kernel_rfl) (by kernel_rfl) (fun _ _ _ h => h) (Or.inl ⟨by rfl, ?_⟩) hHeld ?_
    rotate_left
    · intro W9 hSw; (try dsimp only at hSw); go_simp; (try with_reducible rfl)
    simp only [Act.put, List.getElem_toArray, List.getElem_cons_zero, List.getElem_cons_succ, List.setIfInBounds_toArray, List.set_cons_zero, List.set_cons_succ]
    refine wpAnyH_take (i := 2) (v := ?_) rfl (by kernel_rfl) (by kernel_rfl) (by kernel_rfl) (fun _ _ _ h => h) (Or.inl ⟨by rfl, ?_⟩) hHeld ?_
    rotate_left
    · intro W9 hSw; (try dsimp only at hSw); go_simp; (try with_reducible rfl)
    simp only [Act.put, List.getElem_toArray, List.getElem_cons_zero, List.getElem_cons_succ, List.setIfInBounds_toArray, List.set_cons_zero, List.set_cons_succ]
    refine wpAnyH_take (i := 3) (v := ?_) rfl (by kernel_rfl) (by kernel_rfl) (by kernel_rfl) (fun _ _ _ h => h) (Or.inl ⟨by rfl, ?_⟩) hHeld ?_
    rotate_left
    · intro W9 hSw; (try dsimp only at hSw); go_simp; (try with_reducible rfl)
    simp only [Act.put, List.getElem_toArray, List.getElem_cons_zero, List.getElem_cons_succ, List.setIfInBounds_toArray, List.set_cons_zero, List.set_cons_succ]
    refine wpAnyH_ready (rs := [4]) (by kernel_rfl) (by simp) ?_
    refine AllReadyH.cons rfl (fun K hK => ?_) AllReadyH.nil
    go_simp
    go_at_call 26
    refine (hc6.out _ (hb5.out.trans ((Below.refl _ _).drew.mono hb5.out.size))).mono ?_
    rintro e w6 ⟨rfl, hb6⟩
    replace hb6 := Lib.hid (undrew hb6)
    refine hK.out _ _ (hS.out _ hb6.out) (fun hHeld2 => ?_)
    clear hK K hHeld
    have hHeld := hHeld2
    clear hHeld2
    refine wpAnyH_take (i := 5) (v := ?_) rfl (by kernel_rfl) (by kernel_rfl) (by kernel_rfl) (fun _ _ _ h => h) (Or.inl ⟨by rfl, ?_⟩) hHeld ?_
    rotate_left
    · intro W9 hSw; (try dsimp only at hSw); go_simp; (try with_reducible rfl)
    simp only [Act.put, List.getElem_toArray, List.getElem_cons_zero, List.getElem_cons_succ, List.setIfInBounds_toArray, List.set_cons_zero, List.set_cons_succ]
    refine wpAnyH_take (i := 6) (v := ?_) rfl (by kernel_rfl) (by kernel_rfl) (by kernel_rfl) (fun _ _ _ h => h) (Or.inl ⟨by rfl, ?_⟩) hHeld ?_
    rotate_left
    · intro W9 hSw; (try dsimp only at hSw); go_simp; (try with_reducible rfl)
    simp only [Act.put, List.getElem_toArray, List.getElem_cons_zero, List.getElem_cons_succ, List.setIfInBounds_toArray, List.set_cons_zero, List.set_cons_succ]
    refine wpAnyH_take (i := 7) (v := ?_) rfl (by kernel_rfl) (by kernel_rfl) (by kernel_rfl) (fun _ _ _ h => h) (Or.inl ⟨by rfl, ?_⟩) hHeld ?_
    rotate_left
    · intro W9 hSw; (try dsimp only at hSw); go_simp; (try with_reducible rfl)
    simp only [Act.put, List.getElem_toArray, List.getElem_cons_zero, List.getElem_cons_succ, List.setIfInBounds_toArray, List.set_cons_zero, List.set_cons_succ]
    refine wpAnyH_take (i := 8) (v := ?_) rfl (by kernel_rfl) (by kernel_rfl) (by kernel_rfl) (fun _ _ _ h => h) (Or.inl ⟨by rfl, ?_⟩) hHeld ?_
    rotate_left
    · intro W9 hSw; (try dsimp only at hSw); go_simp; (try with_reducible rfl)
    simp only [Act.put, List.getElem_toArray, List.getElem_cons_zero, List.getElem_cons_succ, List.setIfInBounds_toArray, List.set_cons_zero, List.set_cons_succ]
    refine wpAnyH_ready (rs := [9]) (by kernel_rfl) (by simp) ?_
    refine AllReadyH.cons rfl (fun K hK => ?_) AllReadyH.nil
    go_simp
    go_at_call 26
    refine (hc7.out _ (hb5.out.trans (hb6.out.mono hb5.out.size))).mono ?_
    rintro e w7 ⟨rfl, hb7⟩
    replace hb7 := Lib.hid (hb6.out.trans (hb7.mono hb6.out.size))
    refine hK.out _ _ (hS.out _ hb7.out) (fun hHeld2 => ?_)
    clear hK K hHeld
    have hHeld := hHeld2
    clear hHeld2
    refine wpAnyH_take (i := 10) (v := ?_) rfl (by kernel_rfl) (by kernel_rfl) (by kernel_rfl) (fun _ _ _ h => h) (Or.inl ⟨by rfl, ?_⟩) hHeld ?_
    rotate_left
    · intro W9 hSw; (try dsimp only at hSw); go_simp; (try with_reducible rfl)
    simp only [Act.put, List.getElem_toArray, List.getElem_cons_zero, List.getElem_cons_succ, List.setIfInBounds_toArray, List.set_cons_zero, List.set_cons_succ]
    refine wpAnyH_take (i := 11) (v := ?_) rfl (by kernel_rfl) (by kernel_rfl) (by kernel_rfl) (fun _ _ _ h => h) (Or.inl ⟨by rfl, ?_⟩) hHeld ?_
    rotate_left
    · intro W9 hSw; (try dsimp only at hSw); go_simp; (try with_reducible rfl)
    simp only [Act.put, List.getElem_toArray, List.getElem_cons_zero, List.getElem_cons_succ, List.setIfInBounds_toArray, List.set_cons_zero, List.set_cons_succ]
    refine wpAnyH_done (by kernel_rfl) ?_ _
    clear hHeld hS hc6 hc7 p1 p2 p3 p4 p5 p6
    have hb8 : Hid (Below w.heap.size w w7) := hb.out.trans ((hb5.out.trans (hb7.out.mono hb5.out.size)).mono hb.out.size)
    clear hb5 hb6 hb7 hY
    go_wp2_with fail
    go_at_call 9
    refine (hK.out _ hb8.out).mono ?_
    rintro e u9 ⟨rfl, hbn⟩
    have hb9 := Lib.hid (hb8.out.trans (hbn.mono hb8.out.size))
    clear hbn
    go_wp2_with fail
    go_ret
    exact ⟨rfl, hb9.out⟩
set_option maxRecDepth 100000 in
set_option maxHeartbeats 8000000 in
theorem pr_yes (A : Option Addr) (l : List Ent) (c : Nat) (O : Option Addr) (o : List Int) (co : Nat) (V : Option Addr) (v : List Bool) (cv : Nat) (a : Nat) (y : Int) (w : World) (hG : FI w A l c) (hM : RM w O V o v) (ha : a ≤ 65535) (hT : TabOK w) (hf : fewP l) (h8 : ¬ 8 < o.length) (h9 : ¬ 8 < v.length) (hv : okF l) (hn : bst l (fullS l) ≠ -1) : Calls Tryd.prog 7 #[.slice A l.length c, .agg #[.slice O o.length co, .slice V v.length cv], .int .u16 (a : Int), .int .i64 y] w fun e w' => e = .returned (.bool true) ∧ Below w.heap.size w w' := by
  have hfe : Hid (∀ W, Below w.heap.size w W → Calls Tryd.prog 12 #[.slice A l.length c] W fun e w' => e = .returned (.bool (fewB l)) ∧ W = w') := fun W h => lfew A l c W (hG.next h)
  have hK : Hid (∀ W, Below w.heap.size w W → Calls Tryd.prog 9 #[] W fun e w' => e = .returned (.bool true) ∧ Below W.heap.size W w') := fun W h => known_43 W (hT.next h)
  have hX := Lib.hid (RB.new w (.slice O o.length co) (.slice V v.length cv))
  have hb : Hid (Below w.heap.size w (w.alloc (.cells #[.slice O o.length co, .slice V v.length cv] 30))) := (Below.refl _ _).alloc (Nat.le_refl _) _
  have q1 : ¬ (8 : Int) < (o.length : Int) := by omega
  have q2 : ¬ (8 : Int) < (v.length : Int) := by omega
  rw [fewB_yes hf] at hfe
  have hF := hG.few hf
  have h7 := hf.2
  have hVd : Hid (∀ W, Below w.heap.size w W → Calls Tryd.prog 11 #[.slice A l.length c] W fun e w' => e = .returned (.bool true) ∧ Below W.heap.size W w') := fun W h => fB_true hv ▸ (hF.next h).lvalid
  obtain ⟨N, hN⟩ : ∃ N, 2 ^ szE l = N := ⟨_, rfl⟩
  have hN256 : N ≤ 256 := by rw [← hN]; exact full_lt (szE_le h7).1
  have hl2 : 0 < l.length := by have := hv.1; omega
  have hN4 : 4 ≤ N := by
    have h1 : 2 ^ 2 ≤ 2 ^ szE l := Nat.pow_le_pow_right (show 2 > 0 by decide) (by have h2 : szE l = l.length + l.length % 2 := rfl; have := hv.1; omega)
    omega
  have hLc : Hid ((certL l).length = N) := (certL_len l).trans hN
  obtain ⟨R, hR⟩ : ∃ R, N - 1 = R := ⟨_, rfl⟩
  have gR : IntKind.i64.wrap ((N : Int) - 1) = (R : Int) := by rw [show (N : Int) - 1 = (R : Int) by omega]; exact i64_nat (by omega)
  have hRN : (R : Int) < (N : Int) := by omega
  have hR0 : (0 : Int) ≤ (R : Int) := Int.natCast_nonneg _
  have hcok := certL_ok h7 hv.num
  have hlast := certL_last h7 (l := l)
  rw [hN, hR] at hlast
  obtain ⟨B, hB0, hBe⟩ : ∃ B : Int, 0 ≤ B ∧ bst l (fullS l) = B := ⟨_, by rcases best_is h7 hv.num with h | h; exact absurd h.1 hn; exact h.1, rfl⟩
  have hres : valR l (resO l) (resW l) = B := by rcases best_is h7 hv.num with h | h; exact absurd h.1 hn; rw [← hBe, ← h.2.2.2.1]; exact h.2.2.1
  have hBB : (B != B) = false := bne_self_eq_false _
  rw [hBe] at hlast
  have hP : Hid (∀ W, Below w.heap.size w W → Calls Tryd.prog 25 #[.slice A l.length c] W fun e w' => (∃ Br : Nat, e = .returned (.tuple #[.slice (some ⟨Br, 0, none⟩) N N, .int .i64 0]) ∧ IRow w' Br 3 (certL l)) ∧ Below W.heap.size W w') := fun W h => (pProve A l c W (hF.next h) hv h7 (hT.next h)).mono fun e w' hq => ⟨by have h1 := hq.out; rwa [hN] at h1, hq.below⟩
  have hBs : Hid (∀ W, Below w.heap.size w W → Calls Tryd.prog 14 #[.slice A l.length c] W fun e w' => (∃ bo co Bw : Nat, e = .returned (.tuple #[.agg #[.slice (some ⟨bo, 0, none⟩) l.length co, .slice (some ⟨Bw, 0, none⟩) l.length l.length], .int .i64 B]) ∧ TRow w' bo (resO l) ∧ BRow w' Bw 4 (resW l)) ∧ Below W.heap.size W w') := fun W h => hBe ▸ (lBest A l c W (hF.next h) hv h7).mono fun e w' hq => ⟨hq.yes hn, hq.below⟩
  obtain ⟨K, hKe⟩ : ∃ K, valR l o v = K := ⟨_, rfl⟩
  have hKb : K = -1 ∨ 0 ≤ K := by rw [← hKe]; exact valR_bd hv.num
  have hLv : Hid (∀ W, Below w.heap.size w W → Calls Tryd.prog 23 #[.slice A l.length c, .agg #[.slice O o.length co, .slice V v.length cv]] W fun e w' => e = .returned (.int .i64 K) ∧ Below W.heap.size W w') := fun W h => hKe ▸ lvalue A O V l o v c co cv W (hF.next h) hv (hM.next h) (by omega) (by omega)
  have hE3 : Hid (chkE l o v (certL l) = if K ≠ -1 ∧ K = B then 0 else 10) := by
    show _ = _
    by_cases h : K ≠ -1 ∧ K = B
    · rw [if_pos h]
      exact chkE_yes ⟨by rw [hKe]; exact h.1, hcok, by rw [hN, hR, hlast, hKe]; exact h.2.symm⟩
    · rw [if_neg h]
      refine chkE_no fun hh => h ?_
      have h1 := hh.1
      have h2 := hh.2.2
      rw [hN, hR, hlast, hKe] at h2
      rw [hKe] at h1
      exact ⟨h1, h2.symm⟩
  have hFH := Lib.hid hF
  have hvH := Lib.hid hv
  have hTH := Lib.hid hT
  have hMH := Lib.hid hM
  have hNH := Lib.hid hN
  have hRH := Lib.hid hR
  have hcokH := Lib.hid hcok
  have hlastH := Lib.hid hlast
  have hBeH := Lib.hid hBe
  have hnH := Lib.hid hn
  have hresH := Lib.hid hres
  clear hres
  have hCk : Hid (∀ (W : World) (O2 V2 C2 : Option Addr) (o2 : List Int) (v2 : List Bool) (cc : List Int) (co2 cv2 cq : Nat), Below w.heap.size w W → RM W O2 V2 o2 v2 → RecAt iEnc 1 W W.heap.size C2 cc → o2.length ≤ 100000 → v2.length ≤ 100000 → cc.length ≤ 100000 → Calls Tryd.prog 26 #[.slice A l.length c, .agg #[.slice O2 o2.length co2, .slice V2 v2.length cv2], .slice C2 cc.length cq] W fun e w' => e = .returned (.int .i64 (chkE l o2 v2 cc)) ∧ Below W.heap.size W w') := fun W O2 V2 C2 o2 v2 cc co2 cv2 cq hW h1 h2 h3 h4 h5 => pCheck A O2 V2 C2 l o2 v2 cc c co2 cv2 cq W (hFH.out.next hW) h1 h2 h3 h4 h5 hvH.out h7 (hTH.out.next hW)
  have hCt : Hid (∀ (W : World) (C2 : Option Addr) (cc : List Int) (cq : Nat), Below w.heap.size w W → RecAt iEnc 1 W W.heap.size C2 cc → cc.length ≤ 100000 → Calls Tryd.prog 27 #[.slice A l.length c, .slice C2 cc.length cq] W fun e w' => e = .returned (.bool (certB l cc)) ∧ Below W.heap.size W w') := fun W C2 cc cq hW h1 h2 => lcert A C2 l cc c cq W (hFH.out.next hW) hvH.out h7 h1 h2
  clear hG hM hT hf hF hv hn hN hR hcok hlast hBe hKe
  go_enter Tryd.func7, Tryd.ntmps7
  go_upto_region 1 with fail
  generalize w.heap.size = B0 at hX ⊢
  generalize w.alloc (.cells #[.slice O o.length co, .slice V v.length cv] 30) = u at *
  have x0 := hX.out.c0
  have x1 := hX.out.c1
  go_wp2_with fail
  go_at_call 12
  refine (hfe.out _ hb.out).mono ?_
  rintro e u9 ⟨rfl, rfl⟩
  clear hfe
  go_wp2_with fail
  go_at_call 25
  refine (hP.out _ hb.out).mono ?_
  rintro e u ⟨hpr, hbn⟩
  obtain ⟨Br, rfl, hIc⟩ := hpr
  replace hIc := Lib.hid hIc
  replace hX := Lib.hid (hX.out.next hbn)
  replace hb := Lib.hid (hb.out.trans (hbn.mono hb.out.size))
  clear hbn
  clear x0 x1
  have x0 := hX.out.c0
  have x1 := hX.out.c1
  clear hP
  go_wp2_with fail
  go_at_call 11
  refine (hVd.out _ hb.out).mono ?_
  rintro e u ⟨rfl, hbn⟩
  replace hX := Lib.hid (hX.out.next hbn)
  replace hIc := Lib.hid (hIc.out.next hbn)
  replace hb := Lib.hid (hb.out.trans (hbn.mono hb.out.size))
  clear hbn
  clear x0 x1
  have x0 := hX.out.c0
  have x1 := hX.out.c1
  go_wp2_with fail
  go_at_call 14
  refine (hBs.out _ hb.out).mono ?_
  rintro e u ⟨hpr, hbn⟩
  obtain ⟨bo, co2, Bv, rfl, hO2, hW2⟩ := hpr
  have hMw : Hid (RM u (some ⟨bo, 0, none⟩) (some ⟨Bv, 0, none⟩) (resO l) (resW l)) := ⟨hO2.recs, hW2.recs⟩
  clear hO2 hW2
  replace hX := Lib.hid (hX.out.next hbn)
  replace hIc := Lib.hid (hIc.out.next hbn)
  replace hb := Lib.hid (hb.out.trans (hbn.mono hb.out.size))
  clear hbn
  clear x0 x1
  have x0 := hX.out.c0
  have x1 := hX.out.c1
  have hbn : Below u.heap.size u (u.alloc (.cells #[.slice (some ⟨bo, 0, none⟩) l.length co2, .slice (some ⟨Bv, 0, none⟩) l.length l.length] 30)) := (Below.refl _ _).alloc (Nat.le_refl _) _
  have hY := Lib.hid (RB.new u (.slice (some ⟨bo, 0, none⟩) l.length co2) (.slice (some ⟨Bv, 0, none⟩) l.length l.length))
  replace hX := Lib.hid (hX.out.next hbn)
  replace hIc := Lib.hid (hIc.out.next hbn)
  replace hMw := Lib.hid (hMw.out.next hbn)
  replace hb := Lib.hid (hb.out.trans (hbn.mono hb.out.size))
  clear hbn x0 x1 hBs hVd
  go_upto_region 7 with fail
  generalize u.heap.size = B1 at hY ⊢
  generalize u.alloc (.cells #[.slice (some ⟨bo, 0, none⟩) l.length co2, .slice (some ⟨Bv, 0, none⟩) l.length l.length] 30) = u1 at *
  clear u
  obtain ⟨u, hu⟩ : ∃ u, u = u1 := ⟨_, rfl⟩
  subst hu
  have x0 := hX.out.c0
  have x1 := hX.out.c1
  have y0 := hY.out.c0
  have y1 := hY.out.c1
  have hgL : Hid ((certL l)[R]? = some B) := by
    have h1 : (certL l)[R]? = some ((certL l)[R]'(by have := hLc.out; omega)) := List.getElem?_eq_getElem _
    have h2 := oE_eq h1
    rw [hlastH.out] at h2
    show (certL l)[R]? = some B
    rw [h1, ← h2]
  have hc1 : Hid (Calls Tryd.prog 27 #[.slice A l.length c, .slice (some ⟨Br, 0, none⟩) N N] u fun e w' => e = .returned (.bool true) ∧ Below u.heap.size u w') := by
    have h1 := hCt.out u (some ⟨Br, 0, none⟩) (certL l) N hb.out hIc.out.recs (by have := hLc.out; omega)
    rw [hLc.out, certB_yes hcokH.out] at h1
    exact h1
  go_wp2_with fail
  go_at_call 27
  refine (hc1.out).mono ?_
  rintro e u ⟨rfl, hbn⟩
  replace hX := Lib.hid (hX.out.next hbn)
  replace hIc := Lib.hid (hIc.out.next hbn)
  replace hMw := Lib.hid (hMw.out.next hbn)
  replace hY := Lib.hid (hY.out.next hbn)
  replace hb := Lib.hid (hb.out.trans (hbn.mono hb.out.size))
  clear hbn
  clear x0 x1
  have x0 := hX.out.c0
  have x1 := hX.out.c1
  clear y0 y1
  have y0 := hY.out.c0
  have y1 := hY.out.c1
  clear hc1
  have z1 := hIc.out.cell hgL.out
  have hc2 : Hid (Calls Tryd.prog 26 #[.slice A l.length c, .agg #[.slice (some ⟨bo, 0, none⟩) l.length co2, .slice (some ⟨Bv, 0, none⟩) l.length l.length], .slice (some ⟨Br, 0, none⟩) N N] u fun e w' => e = .returned (.int .i64 0) ∧ Below u.heap.size u w') := by
    have h1 := hCk.out u _ _ (some ⟨Br, 0, none⟩) _ _ (certL l) co2 l.length N hb.out hMw.out hIc.out.recs (by rw [resO_len]; omega) (by rw [resW_len]; omega) (by have := hLc.out; omega)
    rw [hLc.out, resO_len, resW_len, chkE_yes ⟨by rw [hresH.out]; omega, hcokH.out, by rw [hNH.out, hRH.out, hlastH.out, hresH.out]⟩] at h1
    exact h1
  go_wp2_with fail
  go_at_call 26
  refine (hc2.out).mono ?_
  rintro e u ⟨rfl, hbn⟩
  replace hX := Lib.hid (hX.out.next hbn)
  replace hIc := Lib.hid (hIc.out.next hbn)
  replace hMw := Lib.hid (hMw.out.next hbn)
  replace hY := Lib.hid (hY.out.next hbn)
  replace hb := Lib.hid (hb.out.trans (hbn.mono hb.out.size))
  clear hbn
  clear x0 x1
  have x0 := hX.out.c0
  have x1 := hX.out.c1
  clear y0 y1
  have y0 := hY.out.c0
  have y1 := hY.out.c1
  clear hc2 z1
  go_wp2_with fail
  go_at_call 23
  refine (hLv.out _ hb.out).mono ?_
  rintro e u ⟨rfl, hbn⟩
  replace hX := Lib.hid (hX.out.next hbn)
  replace hIc := Lib.hid (hIc.out.next hbn)
  replace hMw := Lib.hid (hMw.out.next hbn)
  replace hY := Lib.hid (hY.out.next hbn)
  replace hb := Lib.hid (hb.out.trans (hbn.mono hb.out.size))
  clear hbn
  clear x0 x1
  have x0 := hX.out.c0
  have x1 := hX.out.c1
  clear y0 y1
  have y0 := hY.out.c0
  have y1 := hY.out.c1
  clear hLv
  go_upto_region 12 with fail
  have hc3 : Hid (Calls Tryd.prog 26 #[.slice A l.length c, .agg #[.slice O o.length co, .slice V v.length cv], .slice (some ⟨Br, 0, none⟩) N N] u fun e w' => e = .returned (.int .i64 (if K ≠ -1 ∧ K = B then 0 else 10)) ∧ Below u.heap.size u w') := by
    have h1 := hCk.out u O V (some ⟨Br, 0, none⟩) o v (certL l) co cv N hb.out (hMH.out.next hb.out) hIc.out.recs (by omega) (by omega) (by have := hLc.out; omega)
    rw [hLc.out, hE3.out] at h1
    exact h1
  go_cut [105] from 93 to 105 (fun s105 wc => s105 = .bool false ∧ Hid (RB wc B1 (.slice (some ⟨bo, 0, none⟩) l.length co2) (.slice (some ⟨Bv, 0, none⟩) l.length l.length)) ∧ Hid (IRow wc Br 3 (certL l)) ∧ Hid (RM wc (some ⟨bo, 0, none⟩) (some ⟨Bv, 0, none⟩) (resO l) (resW l)) ∧ Hid (Below w.heap.size w wc))
  case first =>
    by_cases hm : K = -1
    · rw [if_neg (fun h => h.1 hm)] at hc3
      have k0 : (0 ≤ K) = False := eq_false (by omega)
      clear hm
      go_wp2_with fail
      go_at_call 26
      refine hc3.out.mono ?_
      rintro e u9 ⟨rfl, hbn⟩
      have k1 := Lib.hid (hY.out.next hbn)
      have k2 := Lib.hid (hIc.out.next hbn)
      have k3 := Lib.hid (hMw.out.next hbn)
      have k4 := Lib.hid (hb.out.trans (hbn.mono hb.out.size))
      clear hbn hc3
      go_wp2_with fail
      go_meet
      exact ⟨rfl, k1, k2, k3, k4⟩
    by_cases hq : K = B
    · rw [if_pos ⟨hm, hq⟩] at hc3
      have k0 : (0 ≤ K) = True := eq_true (by omega)
      have k9 : (K == B) = true := by rw [beq_iff_eq]; exact hq
      clear hm hq
      go_wp2_with fail
      go_at_call 26
      refine hc3.out.mono ?_
      rintro e u9 ⟨rfl, hbn⟩
      have k1 := Lib.hid (hY.out.next hbn)
      have k2 := Lib.hid (hIc.out.next hbn)
      have k3 := Lib.hid (hMw.out.next hbn)
      have k4 := Lib.hid (hb.out.trans (hbn.mono hb.out.size))
      clear hbn hc3
      go_wp2_with fail
      go_meet
      exact ⟨rfl, k1, k2, k3, k4⟩
    · rw [if_neg (fun h => hq h.2)] at hc3
      have k0 : (0 ≤ K) = True := eq_true (by omega)
      have k9 : (K == B) = false := by rw [beq_eq_false_iff_ne]; exact hq
      clear hm hq
      go_wp2_with fail
      go_at_call 26
      refine hc3.out.mono ?_
      rintro e u9 ⟨rfl, hbn⟩
      have k1 := Lib.hid (hY.out.next hbn)
      have k2 := Lib.hid (hIc.out.next hbn)
      have k3 := Lib.hid (hMw.out.next hbn)
      have k4 := Lib.hid (hb.out.trans (hbn.mono hb.out.size))
      clear hbn hc3
      go_wp2_with fail
      go_meet
      exact ⟨rfl, k1, k2, k3, k4⟩
  case rest =>
    clear hc3 hY hIc hMw hb x0 x1 y0 y1 hX hE3 hKb
    obtain ⟨rfl, hY, hIc, hMw, hb⟩ := hcut
    obtain ⟨u2, hu2⟩ : ∃ u2, u2 = wc := ⟨_, rfl⟩
    subst hu2
    go_upto_region 14 with fail
    go_upto_region 15 with (at_builtin; refine wpList_append_recs intRow iEnc_len iEnc_one rfl _ _ rfl u2.heap.size none 0 [] rfl owns_nil (some ⟨Br, 0, none⟩) N (certL l) (by rw [hLc.out]; rfl) hIc.out.recs (by simp only [List.length_nil]; have := hLc.out; omega) (Nat.le_refl _) ?_; intro A2 c2 w2 hown hg _; rw [List.nil_append] at hown; rw [show ([] ++ certL l : List Int).length = N from by rw [List.nil_append]; exact hLc.out]; have hO : Hid (O1 iEnc 1 u2.heap.size 3 u2 w2 A2 c2 (certL l)) := (O1.nil (Below.refl _ _) (Nat.le_refl _)).app hown hg; clear hown hg)
    obtain ⟨g, rfl, hg1, hg2⟩ := hO.out.form (by have := hLc.out; omega)
    have hcap : N ≤ c2 := by have := own_cap hO.out.own (by have := hLc.out; omega); have := hLc.out; omega
    obtain ⟨I, hI⟩ : ∃ I, a % N = I := ⟨_, rfl⟩
    have hIN : I < N := by rw [← hI]; exact Nat.mod_lt _ (by omega)
    have m1 : IntKind.i64.wrap (a : Int) = (a : Int) := i64_nat (by omega)
    have m2 : (a : Int).tmod (N : Int) = (I : Int) := by rw [← hI]; rfl
    have m3 : IntKind.i64.wrap (I : Int) = (I : Int) := i64_nat (by omega)
    have m4 : (I : Int) < (N : Int) := by omega
    have m5 : (0 : Int) ≤ (I : Int) := Int.natCast_nonneg _
    have m6 : ((N : Int) == 0) = false := by rw [beq_eq_false_iff_ne]; omega
    have m7 : ((N : Int) = 0) = False := eq_false (by omega)
    have m8 : (N = 0) = False := eq_false (by omega)
    obtain ⟨x, hx⟩ : ∃ x, (certL l)[I]? = some x := ⟨_, List.getElem?_eq_getElem (by have := hLc.out; omega)⟩
    have q0 := hO.out.cell1 (g := fun x => Value.int .i64 x) (fun _ => rfl) hx
    have q3 := World.ownsRow.frozenAt hO.out.own I
    have hO2 : Hid (O1 iEnc 1 u2.heap.size 3 u2 (w2.setCell ⟨g, I, none⟩ (.int .i64 y)) (some ⟨g, 0, none⟩) c2 ((certL l).set I y)) := hO.out.set1 (g := fun x => Value.int .i64 x) (fun _ => rfl) I y rfl
    clear hI hx hO
    go_upto_region 16 with fail
    clear q0 q3 m1 m2 m3 m4 m5 m6 m7 m8
    generalize w2.setCell ⟨g, I, none⟩ (.int .i64 y) = u3 at *
    have hbn := hO2.out.below
    have hRb := Lib.hid (hO2.out.recs iEnc_len)
    clear hO2
    replace hY := Lib.hid (hY.out.next hbn)
    replace hMw := Lib.hid (hMw.out.next hbn)
    replace hb := Lib.hid (hb.out.trans (hbn.mono hb.out.size))
    clear hbn hIc
    obtain ⟨bad, hbad⟩ : ∃ bad, (certL l).set I y = bad := ⟨_, rfl⟩
    have hbl : Hid (bad.length = N) := by show bad.length = N; rw [← hbad, List.length_set]; exact hLc.out
    rw [hbad] at hRb
    clear hbad
    obtain ⟨z, hz⟩ : ∃ z, bad[R]? = some z := ⟨_, List.getElem?_eq_getElem (by have := hbl.out; omega)⟩
    have hwt : Hid (wantB l bad = (certB l bad && (z == B))) := by show _ = _; unfold wantB; rw [hNH.out, hRH.out, oE_eq hz, hBeH.out]
    have hc4 : Hid (Calls Tryd.prog 27 #[.slice A l.length c, .slice (some ⟨g, 0, none⟩) N c2] u3 fun e w' => e = .returned (.bool (certB l bad)) ∧ Below u3.heap.size u3 w') := by
      have h1 := hCt.out u3 (some ⟨g, 0, none⟩) bad c2 hb.out hRb.out (by have := hbl.out; omega)
      rw [hbl.out] at h1
      exact h1
    go_cut [15] from 116 to 132 (fun s15 wc => s15 = .bool (wantB l bad) ∧ Hid (RB wc B1 (.slice (some ⟨bo, 0, none⟩) l.length co2) (.slice (some ⟨Bv, 0, none⟩) l.length l.length)) ∧ Hid (RecAt iEnc 1 wc wc.heap.size (some ⟨g, 0, none⟩) bad) ∧ Hid (RM wc (some ⟨bo, 0, none⟩) (some ⟨Bv, 0, none⟩) (resO l) (resW l)) ∧ Hid (Below w.heap.size w wc))
    case first =>
      obtain ⟨CB, hCB⟩ : ∃ CB, certB l bad = CB := ⟨_, rfl⟩
      rw [hCB] at hc4 hwt
      clear hCB
      cases CB with
      | false =>
        rw [Bool.false_and] at hwt
        go_wp2_with fail
        go_at_call 27
        refine hc4.out.mono ?_
        rintro e u9 ⟨rfl, hbn⟩
        have k1 := Lib.hid (hY.out.next hbn)
        have k2 := Lib.hid (recs_next hRb.out hbn)
        have k3 := Lib.hid (hMw.out.next hbn)
        have k4 := Lib.hid (hb.out.trans (hbn.mono hb.out.size))
        clear hbn hc4
        go_wp2_with fail
        go_meet
        exact ⟨by rw [hwt.out], k1, k2, k3, k4⟩
      | true =>
        rw [Bool.true_and] at hwt
        go_wp2_with fail
        go_at_call 27
        refine hc4.out.mono ?_
        rintro e u9 ⟨rfl, hbn⟩
        have k1 := Lib.hid (hY.out.next hbn)
        have k2 := Lib.hid (recs_next hRb.out hbn)
        have k3 := Lib.hid (hMw.out.next hbn)
        have k4 := Lib.hid (hb.out.trans (hbn.mono hb.out.size))
        obtain ⟨ba, oa, hAa, hal, ea⟩ := rec1 k2.out hz
        simp only [Option.some.injEq, Addr.mk.injEq, and_true] at hAa
        obtain ⟨rfl, rfl⟩ := hAa
        rw [Nat.zero_add] at ea
        clear hbn hc4 hz hal
        generalize hWB : wantB l bad = WB at *
        obtain ⟨ZB, hZB⟩ : ∃ ZB, (z == B) = ZB := ⟨_, rfl⟩
        rw [hZB] at hwt
        go_wp2_with fail
        go_meet
        exact ⟨by rw [hwt.out], k1, k2, k3, k4⟩
    case rest =>
      clear hc4 hY hRb hMw hb hz hwt
      obtain ⟨rfl, hY, hRb, hMw, hb⟩ := hcut
      obtain ⟨u4, hu4⟩ : ∃ u4, u4 = wc := ⟨_, rfl⟩
      subst hu4
      have y0 := hY.out.c0
      have y1 := hY.out.c1
      have hc5 : Hid (∀ W, Below u4.heap.size u4 W → Calls Tryd.prog 26 #[.slice A l.length c, .agg #[.slice (some ⟨bo, 0, none⟩) l.length co2, .slice (some ⟨Bv, 0, none⟩) l.length l.length], .slice (some ⟨g, 0, none⟩) N c2] W fun e w' => e = .returned (.int .i64 (if wantB l bad = true then 0 else 10)) ∧ Below W.heap.size W w') := fun W h => by
        have h1 := hCk.out W _ _ (some ⟨g, 0, none⟩) _ _ bad co2 l.length c2 (hb.out.trans (h.mono hb.out.size)) (hMw.out.next h) (recs_next hRb.out h) (by rw [resO_len]; omega) (by rw [resW_len]; omega) (by have := hbl.out; omega)
        rw [hbl.out, resO_len, resW_len, chk_want h7 hvH.out.num hnH.out] at h1
        exact h1
      obtain ⟨b0, bs, hbs⟩ : ∃ b0 bs, bad = b0 :: bs := by
        cases hh : bad with
        | nil => have := hbl.out; rw [hh] at this; simp at this; omega
        | cons b0 bs => exact ⟨b0, bs, rfl⟩
      have hbsl : Hid (bs.length = N - 1) := by show _ = _; have := hbl.out; rw [hbs] at this; simp at this; omega
      have hRt : Hid (RecAt iEnc 1 u4 u4.heap.size (some ⟨g, 1, none⟩) bs) := recs_tail (by have := hRb.out; rwa [hbs] at this)
      have hc6 : Hid (∀ W, Below u4.heap.size u4 W → Calls Tryd.prog 26 #[.slice A l.length c, .agg #[.slice (some ⟨bo, 0, none⟩) l.length co2, .slice (some ⟨Bv, 0, none⟩) l.length l.length], .slice (some ⟨g, 1, none⟩) (N - 1) (c2 - 1)] W fun e w' => e = .returned (.int .i64 10) ∧ Below W.heap.size W w') := fun W h => by
        have h1 := hCk.out W _ _ (some ⟨g, 1, none⟩) _ _ bs co2 l.length (c2 - 1) (hb.out.trans (h.mono hb.out.size)) (hMw.out.next h) (recs_next hRt.out h) (by rw [resO_len]; omega) (by rw [resW_len]; omega) (by have := hbsl.out; omega)
        rw [hbsl.out, resO_len, resW_len, chkE_no (fun hh => by have h2 := hh.2.1.1; rw [hNH.out, hbsl.out] at h2; omega)] at h1
        exact h1
      have hc7 : Hid (∀ W, Below u4.heap.size u4 W → Calls Tryd.prog 26 #[.slice A l.length c, .agg #[.slice (some ⟨bo, 0, none⟩) l.length co2, .slice (some ⟨Bv, 0, none⟩) l.length l.length], .slice none 0 0] W fun e w' => e = .returned (.int .i64 10) ∧ Below W.heap.size W w') := fun W h => by
        have h1 := hCk.out W _ _ none _ _ [] co2 l.length 0 (hb.out.trans (h.mono hb.out.size)) (hMw.out.next h) (fun h => absurd h (by simp)) (by rw [resO_len]; omega) (by rw [resW_len]; omega) (by simp)
        rw [resO_len, resW_len, chkE_no (fun hh => by have h2 := hh.2.1.1; rw [hNH.out] at h2; simp at h2; omega)] at h1
        exact h1
      clear hMw hRb hRt hbs hMH hFH hCk hCt hbl hLc
      go_wp2_with fail
      go_at_call 26
      refine (hc5.out _ (Below.refl _ _)).mono ?_
      rintro e u5 ⟨rfl, hbn⟩
      have hb5 := Lib.hid hbn
      replace hY := Lib.hid (hY.out.next hbn)
      clear hbn y0 y1 hc5
      have hS : Hid (∀ W, Below u5.heap.size u5 W → W.cell? ⟨B1, 0, none⟩ = some (.slice (some ⟨bo, 0, none⟩) l.length co2) ∧ W.cell? ⟨B1, 1, none⟩ = some (.slice (some ⟨Bv, 0, none⟩) l.length l.length)) := fun W h => ⟨(hY.out.next h).c0, (hY.out.next h).c1⟩
      have p1 : (c2 = 1) = False := eq_false (by omega)
      have p2 : (c2 - 1 = 0) = False := eq_false (by omega)
      have p3 : (1 : Int) ≤ (N : Int) := by omega
      have p4 : 1 ≤ N := by omega
      have p5 : N ≤ c2 := hcap
      have p6 : (N : Int) ≤ (c2 : Int) := by omega
      go_upto_region 18 with fail
      refine wp_region_held_drew (S := fun W => W.cell? ⟨B1, 0, none⟩ = some (.slice (some ⟨bo, 0, none⟩) l.length co2) ∧ W.cell? ⟨B1, 1, none⟩ = some (.slice (some ⟨Bv, 0, none⟩) l.length l.length)) (by kernel_rfl) (hS.out _ ((Below.refl _ _).drew)) (fun hHeld => ?_)
      refine wpAnyH_take (i := 0) (v := ?_) rfl (by kernel_rfl) (by kernel_rfl) (by kernel_rfl) (fun _ _ _ h => h) (Or.inl ⟨by rfl, ?_⟩) hHeld ?_
      rotate_left
      · intro W9 hSw; (try dsimp only at hSw); go_simp; (try with_reducible rfl)
      simp only [Act.put, List.getElem_toArray, List.getElem_cons_zero, List.getElem_cons_succ, List.setIfInBounds_toArray, List.set_cons_zero, List.set_cons_succ]
      refine wpAnyH_take (i := 1) (v := ?_) rfl (by kernel_rfl) (by kernel_rfl) (by kernel_rfl) (fun _ _ _ h => h) (Or.inl ⟨by rfl, ?_⟩) hHeld ?_
      rotate_left
      · intro W9 hSw; (try dsimp only at hSw); go_simp; (try with_reducible rfl)
      simp only [Act.put, List.getElem_toArray, List.getElem_cons_zero, List.getElem_cons_succ, List.setIfInBounds_toArray, List.set_cons_zero, List.set_cons_succ]
      refine wpAnyH_take (i := 2) (v := ?_) rfl (by kernel_rfl) (by kernel_rfl) (by kernel_rfl) (fun _ _ _ h => h) (Or.inl ⟨by rfl, ?_⟩) hHeld ?_
      rotate_left
      · intro W9 hSw; (try dsimp only at hSw); go_simp; (try with_reducible rfl)
      simp only [Act.put, List.getElem_toArray, List.getElem_cons_zero, List.getElem_cons_succ, List.setIfInBounds_toArray, List.set_cons_zero, List.set_cons_succ]
      refine wpAnyH_take (i := 3) (v := ?_) rfl (by kernel_rfl) (by kernel_rfl) (by kernel_rfl) (fun _ _ _ h => h) (Or.inl ⟨by rfl, ?_⟩) hHeld ?_
      rotate_left
      · intro W9 hSw; (try dsimp only at hSw); go_simp; (try with_reducible rfl)
      simp only [Act.put, List.getElem_toArray, List.getElem_cons_zero, List.getElem_cons_succ, List.setIfInBounds_toArray, List.set_cons_zero, List.set_cons_succ]
      refine wpAnyH_ready (rs := [4]) (by kernel_rfl) (by simp) ?_
      refine AllReadyH.cons rfl (fun K hK => ?_) AllReadyH.nil
      go_simp
      go_at_call 26
      refine (hc6.out _ (hb5.out.trans ((Below.refl _ _).drew.mono hb5.out.size))).mono ?_
      rintro e w6 ⟨rfl, hb6⟩
      replace hb6 := Lib.hid (undrew hb6)
      refine hK.out _ _ (hS.out _ hb6.out) (fun hHeld2 => ?_)
      clear hK K hHeld
      have hHeld := hHeld2
      clear hHeld2
      refine wpAnyH_take (i := 5) (v := ?_) rfl (by kernel_rfl) (by kernel_rfl) (by kernel_rfl) (fun _ _ _ h => h) (Or.inl ⟨by rfl, ?_⟩) hHeld ?_
      rotate_left
      · intro W9 hSw; (try dsimp only at hSw); go_simp; (try with_reducible rfl)
      simp only [Act.put, List.getElem_toArray, List.getElem_cons_zero, List.getElem_cons_succ, List.setIfInBounds_toArray, List.set_cons_zero, List.set_cons_succ]
      refine wpAnyH_take (i := 6) (v := ?_) rfl (by kernel_rfl) (by kernel_rfl) (by kernel_rfl) (fun _ _ _ h => h) (Or.inl ⟨by rfl, ?_⟩) hHeld ?_
      rotate_left
      · intro W9 hSw; (try dsimp only at hSw); go_simp; (try with_reducible rfl)
      simp only [Act.put, List.getElem_toArray, List.getElem_cons_zero, List.getElem_cons_succ, List.setIfInBounds_toArray, List.set_cons_zero, List.set_cons_succ]
      refine wpAnyH_take (i := 7) (v := ?_) rfl (by kernel_rfl) (by kernel_rfl) (by kernel_rfl) (fun _ _ _ h => h) (Or.inl ⟨by rfl, ?_⟩) hHeld ?_
      rotate_left
      · intro W9 hSw; (try dsimp only at hSw); go_simp; (try with_reducible rfl)
      simp only [Act.put, List.getElem_toArray, List.getElem_cons_zero, List.getElem_cons_succ, List.setIfInBounds_toArray, List.set_cons_zero, List.set_cons_succ]
      refine wpAnyH_take (i := 8) (v := ?_) rfl (by kernel_rfl) (by kernel_rfl) (by kernel_rfl) (fun _ _ _ h => h) (Or.inl ⟨by rfl, ?_⟩) hHeld ?_
      rotate_left
      · intro W9 hSw; (try dsimp only at hSw); go_simp; (try with_reducible rfl)
      simp only [Act.put, List.getElem_toArray, List.getElem_cons_zero, List.getElem_cons_succ, List.setIfInBounds_toArray, List.set_cons_zero, List.set_cons_succ]
      refine wpAnyH_ready (rs := [9]) (by kernel_rfl) (by simp) ?_
      refine AllReadyH.cons rfl (fun K hK => ?_) AllReadyH.nil
      go_simp
      go_at_call 26
      refine (hc7.out _ (hb5.out.trans (hb6.out.mono hb5.out.size))).mono ?_
      rintro e w7 ⟨rfl, hb7⟩
      replace hb7 := Lib.hid (hb6.out.trans (hb7.mono hb6.out.size))
      refine hK.out _ _ (hS.out _ hb7.out) (fun hHeld2 => ?_)
      clear hK K hHeld
      have hHeld := hHeld2
      clear hHeld2
      refine wpAnyH_take (i := 10) (v := ?_) rfl (by kernel_rfl) (by kernel_rfl) (by kernel_rfl) (fun _ _ _ h => h) (Or.inl ⟨by rfl, ?_⟩) hHeld ?_
      rotate_left
      · intro W9 hSw; (try dsimp only at hSw); go_simp; (try with_reducible rfl)
      simp only [Act.put, List.getElem_toArray, List.getElem_cons_zero, List.getElem_cons_succ, List.setIfInBounds_toArray, List.set_cons_zero, List.set_cons_succ]
      refine wpAnyH_take (i := 11) (v := ?_) rfl (by kernel_rfl) (by kernel_rfl) (by kernel_rfl) (fun _ _ _ h => h) (Or.inl ⟨by rfl, ?_⟩) hHeld ?_
      rotate_left
      · intro W9 hSw; (try dsimp only at hSw); go_simp; (try with_reducible rfl)
      simp only [Act.put, List.getElem_toArray, List.getElem_cons_zero, List.getElem_cons_succ, List.setIfInBounds_toArray, List.set_cons_zero, List.set_cons_succ]
      refine wpAnyH_done (by kernel_rfl) ?_ _
      clear hHeld hS hc6 hc7 p1 p2 p3 p4 p5 p6
      have hb8 : Hid (Below w.heap.size w w7) := hb.out.trans ((hb5.out.trans (hb7.out.mono hb5.out.size)).mono hb.out.size)
      clear hb5 hb6 hb7 hY
      generalize wantB l bad = WB at *
      cases WB with
      | true =>
        go_wp2_with fail
        go_at_call 9
        refine (hK.out _ hb8.out).mono ?_
        rintro e u9 ⟨rfl, hbn⟩
        have hb9 := Lib.hid (hb8.out.trans (hbn.mono hb8.out.size))
        clear hbn
        go_wp2_with fail
        go_ret
        exact ⟨rfl, hb9.out⟩
      | false =>
        go_wp2_with fail
        go_at_call 9
        refine (hK.out _ hb8.out).mono ?_
        rintro e u9 ⟨rfl, hbn⟩
        have hb9 := Lib.hid (hb8.out.trans (hbn.mono hb8.out.size))
        clear hbn
        go_wp2_with fail
        go_ret
        exact ⟨rfl, hb9.out⟩
set_option maxRecDepth 100000 in
theorem law_pproves (A : Option Addr) (l : List Ent) (c : Nat) (O : Option Addr) (o : List Int) (co : Nat) (V : Option Addr) (v : List Bool) (cv : Nat) (a : Nat) (y : Int) (w : World) (hG : FI w A l c) (hM : RM w O V o v) (ha : a ≤ 65535) (hT : TabOK w)  : Calls Tryd.prog 7 #[.slice A l.length c, .agg #[.slice O o.length co, .slice V v.length cv], .int .u16 (a : Int), .int .i64 y] w fun e w' => e = .returned (.bool true) ∧ Below w.heap.size w w' := by
  by_cases hf : fewP l
  rotate_left
  · exact pr_few A l c O o co V v cv a y w hG hM ha hT hf
  by_cases h8 : 8 < o.length
  · exact pr_o A l c O o co V v cv a y w hG hM ha hT hf h8
  by_cases h9 : 8 < v.length
  · exact pr_v A l c O o co V v cv a y w hG hM ha hT hf h8 h9
  by_cases hv : okF l
  rotate_left
  · exact pr_inv A l c O o co V v cv a y w hG hM ha hT hf h8 h9 hv
  by_cases hn : bst l (fullS l) = -1
  · exact pr_no A l c O o co V v cv a y w hG hM ha hT hf h8 h9 hv hn
  · exact pr_yes A l c O o co V v cv a y w hG hM ha hT hf h8 h9 hv hn
theorem law_pproves_i (A : Option Addr) (l : List Ent) (c : Nat) (O : Option Addr) (o : List Int) (co : Nat) (V : Option Addr) (v : List Bool) (cv : Nat) (a y : Int) (w : World) (hG : FI w A l c) (hM : RM w O V o v) (ha : 0 ≤ a ∧ a ≤ 65535) (hT : TabOK w) : Calls Tryd.prog 7 #[.slice A l.length c, .agg #[.slice O o.length co, .slice V v.length cv], .int .u16 a, .int .i64 y] w fun e w' => e = .returned (.bool true) ∧ Below w.heap.size w w' := by
  obtain ⟨n, rfl⟩ := Int.eq_ofNat_of_zero_le ha.1
  exact law_pproves A l c O o co V v cv n y w hG hM (by omega) hT
end Go.Proofs.YtjjjdoealagpcaaDoor
