/- Layer 43: the theorem of the stage. -/
import Derived.Test.YtjjjdoealagpcaaDoorHu
import Derived.BigRegion
import Derived.BigQuiet
import Derived.Deep.RegionHeld3
import Derived.Deep.Cut
import Derived.Deep.CutRange
namespace Go.Proofs.YtjjjdoealagpcaaDoor
open Go Go.RowKit
set_option linter.unusedSimpArgs false
set_option linter.unusedVariables false
attribute [local go_sem ↓] Go.wp_at_zero Go.wp_at_succ
theorem wf_u8 {n : Int} (h : (Lit.int .u8 n).wf = true) : 0 ≤ n ∧ n ≤ 255 := by
  unfold Lit.wf at h
  rw [Bool.and_eq_true, decide_eq_true_eq, decide_eq_true_eq] at h
  rw [show IntKind.u8.min = 0 by rfl, show IntKind.u8.max = 255 by rfl] at h
  exact h
theorem e8_row {w : World} {base B c : Nat} {T : TypeId} {w0 : World} {L : List Ent} (h : O1 eEnc 8 base T w0 w (some ⟨B, 0, none⟩) c L) {k : Nat} {e : Ent} (hk : L[k]? = some e) : E8 w B (k * 8) e := by
  obtain ⟨b, off, ea, _, hE⟩ := ent8 (h.recs eEnc_len) (by have := (List.getElem?_eq_some_iff.1 hk).1; omega)
  simp only [Option.some.injEq, Addr.mk.injEq, and_true] at ea
  obtain ⟨rfl, rfl⟩ := ea
  have := hE k e hk
  rwa [Nat.zero_add] at this
set_option maxRecDepth 100000 in
set_option maxHeartbeats 16000000 in
theorem ph_few (A : Option Addr) (l : List Ent) (c : Nat) (O : Option Addr) (o : List Int) (co : Nat) (V : Option Addr) (v : List Bool) (cv : Nat) (a b : Nat) (w : World) (hG : FI w A l c) (hM : RM w O V o v) (ha : a ≤ 255) (hbb : b ≤ 255) (hT : TabOK w) (hf : ¬ fewP l) : Calls Tryd.prog 8 #[.slice A l.length c, .agg #[.slice O o.length co, .slice V v.length cv], .int .u8 (a : Int), .int .u8 (b : Int)] w fun e w' => e = .returned (.bool true) ∧ Below w.heap.size w w' := by
  have hfe : Hid (∀ W, Below w.heap.size w W → Calls Tryd.prog 12 #[.slice A l.length c] W fun e w' => e = .returned (.bool (fewB l)) ∧ W = w') := fun W h => lfew A l c W (hG.next h)
  have hK : Hid (∀ W, Below w.heap.size w W → Calls Tryd.prog 9 #[] W fun e w' => e = .returned (.bool true) ∧ Below W.heap.size W w') := fun W h => known_43 W (hT.next h)
  have hX := Lib.hid (RB.new w (.slice O o.length co) (.slice V v.length cv))
  have hb : Hid (Below w.heap.size w (w.alloc (.cells #[.slice O o.length co, .slice V v.length cv] 30))) := (Below.refl _ _).alloc (Nat.le_refl _) _
  rw [fewB_no hf] at hfe
  clear hG hM hT hf
  go_enter Tryd.func8, Tryd.ntmps8
  go_upto_region 1 with fail
  generalize w.heap.size = B0 at hX ⊢
  generalize w.alloc (.cells #[.slice O o.length co, .slice V v.length cv] 30) = u at *
  have x0 := hX.out.c0
  have x1 := hX.out.c1
  go_wp2_with fail
  go_at_call 12
  refine (hfe.out _ hb.out).mono ?_
  rintro e u9 ⟨rfl, rfl⟩
  clear hfe
  go_wp2_with fail
  go_at_call 9
  refine (hK.out _ hb.out).mono ?_
  rintro e u ⟨rfl, hbn⟩
  replace hX := Lib.hid (hX.out.next hbn)
  replace hb := Lib.hid (hb.out.trans (hbn.mono hb.out.size))
  clear hbn
  clear x0 x1
  have x0 := hX.out.c0
  have x1 := hX.out.c1
  go_wp2_with fail
  go_ret
  exact ⟨rfl, hb.out⟩
set_option maxRecDepth 100000 in
set_option maxHeartbeats 16000000 in
theorem ph_o (A : Option Addr) (l : List Ent) (c : Nat) (O : Option Addr) (o : List Int) (co : Nat) (V : Option Addr) (v : List Bool) (cv : Nat) (a b : Nat) (w : World) (hG : FI w A l c) (hM : RM w O V o v) (ha : a ≤ 255) (hbb : b ≤ 255) (hT : TabOK w) (hf : fewP l) (h8 : 8 < o.length) : Calls Tryd.prog 8 #[.slice A l.length c, .agg #[.slice O o.length co, .slice V v.length cv], .int .u8 (a : Int), .int .u8 (b : Int)] w fun e w' => e = .returned (.bool true) ∧ Below w.heap.size w w' := by
  have hfe : Hid (∀ W, Below w.heap.size w W → Calls Tryd.prog 12 #[.slice A l.length c] W fun e w' => e = .returned (.bool (fewB l)) ∧ W = w') := fun W h => lfew A l c W (hG.next h)
  have hK : Hid (∀ W, Below w.heap.size w W → Calls Tryd.prog 9 #[] W fun e w' => e = .returned (.bool true) ∧ Below W.heap.size W w') := fun W h => known_43 W (hT.next h)
  have hX := Lib.hid (RB.new w (.slice O o.length co) (.slice V v.length cv))
  have hb : Hid (Below w.heap.size w (w.alloc (.cells #[.slice O o.length co, .slice V v.length cv] 30))) := (Below.refl _ _).alloc (Nat.le_refl _) _
  rw [fewB_yes hf] at hfe
  have q1 : (8 : Int) < (o.length : Int) := by omega
  clear hG hM hT hf
  go_enter Tryd.func8, Tryd.ntmps8
  go_upto_region 1 with fail
  generalize w.heap.size = B0 at hX ⊢
  generalize w.alloc (.cells #[.slice O o.length co, .slice V v.length cv] 30) = u at *
  have x0 := hX.out.c0
  have x1 := hX.out.c1
  go_wp2_with fail
  go_at_call 12
  refine (hfe.out _ hb.out).mono ?_
  rintro e u9 ⟨rfl, rfl⟩
  clear hfe
  go_wp2_with fail
  go_at_call 9
  refine (hK.out _ hb.out).mono ?_
  rintro e u ⟨rfl, hbn⟩
  replace hX := Lib.hid (hX.out.next hbn)
  replace hb := Lib.hid (hb.out.trans (hbn.mono hb.out.size))
  clear hbn
  clear x0 x1
  have x0 := hX.out.c0
  have x1 := hX.out.c1
  go_wp2_with fail
  go_ret
  exact ⟨rfl, hb.out⟩
set_option maxRecDepth 100000 in
set_option maxHeartbeats 16000000 in
theorem ph_v (A : Option Addr) (l : List Ent) (c : Nat) (O : Option Addr) (o : List Int) (co : Nat) (V : Option Addr) (v : List Bool) (cv : Nat) (a b : Nat) (w : World) (hG : FI w A l c) (hM : RM w O V o v) (ha : a ≤ 255) (hbb : b ≤ 255) (hT : TabOK w) (hf : fewP l) (h8 : ¬ 8 < o.length) (h9 : 8 < v.length) : Calls Tryd.prog 8 #[.slice A l.length c, .agg #[.slice O o.length co, .slice V v.length cv], .int .u8 (a : Int), .int .u8 (b : Int)] w fun e w' => e = .returned (.bool true) ∧ Below w.heap.size w w' := by
  have hfe : Hid (∀ W, Below w.heap.size w W → Calls Tryd.prog 12 #[.slice A l.length c] W fun e w' => e = .returned (.bool (fewB l)) ∧ W = w') := fun W h => lfew A l c W (hG.next h)
  have hK : Hid (∀ W, Below w.heap.size w W → Calls Tryd.prog 9 #[] W fun e w' => e = .returned (.bool true) ∧ Below W.heap.size W w') := fun W h => known_43 W (hT.next h)
  have hX := Lib.hid (RB.new w (.slice O o.length co) (.slice V v.length cv))
  have hb : Hid (Below w.heap.size w (w.alloc (.cells #[.slice O o.length co, .slice V v.length cv] 30))) := (Below.refl _ _).alloc (Nat.le_refl _) _
  rw [fewB_yes hf] at hfe
  have q1 : ¬ (8 : Int) < (o.length : Int) := by omega
  have q2 : (8 : Int) < (v.length : Int) := by omega
  clear hG hM hT hf
  go_enter Tryd.func8, Tryd.ntmps8
  go_upto_region 1 with fail
  generalize w.heap.size = B0 at hX ⊢
  generalize w.alloc (.cells #[.slice O o.length co, .slice V v.length cv] 30) = u at *
  have x0 := hX.out.c0
  have x1 := hX.out.c1
  go_wp2_with fail
  go_at_call 12
  refine (hfe.out _ hb.out).mono ?_
  rintro e u9 ⟨rfl, rfl⟩
  clear hfe
  go_wp2_with fail
  go_at_call 9
  refine (hK.out _ hb.out).mono ?_
  rintro e u ⟨rfl, hbn⟩
  replace hX := Lib.hid (hX.out.next hbn)
  replace hb := Lib.hid (hb.out.trans (hbn.mono hb.out.size))
  clear hbn
  clear x0 x1
  have x0 := hX.out.c0
  have x1 := hX.out.c1
  go_wp2_with fail
  go_ret
  exact ⟨rfl, hb.out⟩
set_option maxRecDepth 100000 in
set_option maxHeartbeats 16000000 in
theorem ph_inv (A : Option Addr) (l : List Ent) (c : Nat) (O : Option Addr) (o : List Int) (co : Nat) (V : Option Addr) (v : List Bool) (cv : Nat) (a b : Nat) (w : World) (hG : FI w A l c) (hM : RM w O V o v) (ha : a ≤ 255) (hbb : b ≤ 255) (hT : TabOK w) (hf : fewP l) (h8 : ¬ 8 < o.length) (h9 : ¬ 8 < v.length) (hv : ¬ okF l) : Calls Tryd.prog 8 #[.slice A l.length c, .agg #[.slice O o.length co, .slice V v.length cv], .int .u8 (a : Int), .int .u8 (b : Int)] w fun e w' => e = .returned (.bool true) ∧ Below w.heap.size w w' := by
  have hfe : Hid (∀ W, Below w.heap.size w W → Calls Tryd.prog 12 #[.slice A l.length c] W fun e w' => e = .returned (.bool (fewB l)) ∧ W = w') := fun W h => lfew A l c W (hG.next h)
  have hK : Hid (∀ W, Below w.heap.size w W → Calls Tryd.prog 9 #[] W fun e w' => e = .returned (.bool true) ∧ Below W.heap.size W w') := fun W h => known_43 W (hT.next h)
  have hX := Lib.hid (RB.new w (.slice O o.length co) (.slice V v.length cv))
  have hb : Hid (Below w.heap.size w (w.alloc (.cells #[.slice O o.length co, .slice V v.length cv] 30))) := (Below.refl _ _).alloc (Nat.le_refl _) _
  have q1 : ¬ (8 : Int) < (o.length : Int) := by omega
  have q2 : ¬ (8 : Int) < (v.length : Int) := by omega
  rw [fewB_yes hf] at hfe
  have hF := hG.few hf
  have h7 := hf.2
  have hP : Hid (∀ W, Below w.heap.size w W → Calls Tryd.prog 13 #[.slice A l.length c] W fun e w' => e = .returned (.tuple #[.agg #[.slice none 0 0, .slice none 0 0], .int .i64 2]) ∧ Below W.heap.size W w') := fun W h => (hF.next h).pPair_no hv
  have hPr : Hid (∀ W, Below w.heap.size w W → Calls Tryd.prog 25 #[.slice A l.length c] W fun e w' => e = .returned (.tuple #[.slice none 0 0, .int .i64 2]) ∧ Below W.heap.size W w') := fun W h => pProve_bad A l c W (hF.next h) hv
  clear hG hM hT hf hF hv
  go_enter Tryd.func8, Tryd.ntmps8
  go_upto_region 1 with fail
  generalize w.heap.size = B0 at hX ⊢
  generalize w.alloc (.cells #[.slice O o.length co, .slice V v.length cv] 30) = u at *
  have x0 := hX.out.c0
  have x1 := hX.out.c1
  go_wp2_with fail
  go_at_call 12
  refine (hfe.out _ hb.out).mono ?_
  rintro e u9 ⟨rfl, rfl⟩
  clear hfe
  go_wp2_with fail
  go_at_call 13
  refine (hP.out _ hb.out).mono ?_
  rintro e u ⟨rfl, hbn⟩
  replace hX := Lib.hid (hX.out.next hbn)
  replace hb := Lib.hid (hb.out.trans (hbn.mono hb.out.size))
  clear hbn
  clear x0 x1
  have x0 := hX.out.c0
  have x1 := hX.out.c1
  have hbn : Below u.heap.size u (u.alloc (.cells #[.slice none 0 0, .slice none 0 0] 30)) := (Below.refl _ _).alloc (Nat.le_refl _) _
  have hY := Lib.hid (RB.new u (.slice none 0 0) (.slice none 0 0))
  replace hX := Lib.hid (hX.out.next hbn)
  replace hb := Lib.hid (hb.out.trans (hbn.mono hb.out.size))
  clear hbn
  clear x0 x1
  go_upto_region 4 with fail
  generalize u.heap.size = BhY at hY ⊢
  generalize u.alloc (.cells #[.slice none 0 0, .slice none 0 0] 30) = u1 at *
  clear u
  obtain ⟨u, hu⟩ : ∃ u, u = u1 := ⟨_, rfl⟩
  subst hu
  have x0 := hX.out.c0
  have x1 := hX.out.c1
  have y0 := hY.out.c0
  have y1 := hY.out.c1
  go_wp2_with fail
  go_at_call 25
  refine (hPr.out _ hb.out).mono ?_
  rintro e u ⟨rfl, hbn⟩
  replace hX := Lib.hid (hX.out.next hbn)
  replace hY := Lib.hid (hY.out.next hbn)
  replace hb := Lib.hid (hb.out.trans (hbn.mono hb.out.size))
  clear hbn
  clear x0 x1
  have x0 := hX.out.c0
  have x1 := hX.out.c1
  clear y0 y1
  have y0 := hY.out.c0
  have y1 := hY.out.c1
  go_wp2_with fail
  go_at_call 9
  refine (hK.out _ hb.out).mono ?_
  rintro e u ⟨rfl, hbn⟩
  replace hX := Lib.hid (hX.out.next hbn)
  replace hY := Lib.hid (hY.out.next hbn)
  replace hb := Lib.hid (hb.out.trans (hbn.mono hb.out.size))
  clear hbn
  clear x0 x1
  have x0 := hX.out.c0
  have x1 := hX.out.c1
  clear y0 y1
  have y0 := hY.out.c0
  have y1 := hY.out.c1
  go_wp2_with fail
  go_ret
  exact ⟨rfl, hb.out⟩
set_option maxRecDepth 100000 in
set_option maxHeartbeats 16000000 in
theorem ph_no (A : Option Addr) (l : List Ent) (c : Nat) (O : Option Addr) (o : List Int) (co : Nat) (V : Option Addr) (v : List Bool) (cv : Nat) (a b : Nat) (w : World) (hG : FI w A l c) (hM : RM w O V o v) (ha : a ≤ 255) (hbb : b ≤ 255) (hT : TabOK w) (hf : fewP l) (h8 : ¬ 8 < o.length) (h9 : ¬ 8 < v.length) (hv : okF l) (hn : bst l (fullS l) = -1) : Calls Tryd.prog 8 #[.slice A l.length c, .agg #[.slice O o.length co, .slice V v.length cv], .int .u8 (a : Int), .int .u8 (b : Int)] w fun e w' => e = .returned (.bool true) ∧ Below w.heap.size w w' := by
  have hfe : Hid (∀ W, Below w.heap.size w W → Calls Tryd.prog 12 #[.slice A l.length c] W fun e w' => e = .returned (.bool (fewB l)) ∧ W = w') := fun W h => lfew A l c W (hG.next h)
  have hK : Hid (∀ W, Below w.heap.size w W → Calls Tryd.prog 9 #[] W fun e w' => e = .returned (.bool true) ∧ Below W.heap.size W w') := fun W h => known_43 W (hT.next h)
  have hX := Lib.hid (RB.new w (.slice O o.length co) (.slice V v.length cv))
  have hb : Hid (Below w.heap.size w (w.alloc (.cells #[.slice O o.length co, .slice V v.length cv] 30))) := (Below.refl _ _).alloc (Nat.le_refl _) _
  have q1 : ¬ (8 : Int) < (o.length : Int) := by omega
  have q2 : ¬ (8 : Int) < (v.length : Int) := by omega
  rw [fewB_yes hf] at hfe
  have hF := hG.few hf
  have h7 := hf.2
  obtain ⟨N, hN⟩ : ∃ N, 2 ^ szE l = N := ⟨_, rfl⟩
  have hN256 : N ≤ 256 := by rw [← hN]; exact full_lt (szE_le h7).1
  have hl2 : 0 < l.length := by have := hv.1; omega
  have hN4 : 4 ≤ N := by
    have h1 : 2 ^ 2 ≤ 2 ^ szE l := Nat.pow_le_pow_right (show 2 > 0 by decide) (by have h2 : szE l = l.length + l.length % 2 := rfl; have := hv.1; omega)
    omega
  have hLc : Hid ((certL l).length = N) := (certL_len l).trans hN
  obtain ⟨R, hR⟩ : ∃ R, N - 1 = R := ⟨_, rfl⟩
  have gR : IntKind.i64.wrap ((N : Int) - 1) = (R : Int) := by rw [show (N : Int) - 1 = (R : Int) by omega]; exact i64_nat (by omega)
  have hRN : (R : Int) < (N : Int) := by omega
  have hR0 : (0 : Int) ≤ (R : Int) := Int.natCast_nonneg _
  have hN0q : ((N : Int) == 0) = false := by rw [beq_eq_false_iff_ne]; omega
  have hN0e : (N = 0) = False := eq_false (by omega)
  have hcok := certL_ok h7 hv.num
  have hlast := certL_last h7 (l := l)
  rw [hN, hR] at hlast
  have hPr : Hid (∀ W, Below w.heap.size w W → Calls Tryd.prog 25 #[.slice A l.length c] W fun e w' => (∃ Br : Nat, e = .returned (.tuple #[.slice (some ⟨Br, 0, none⟩) N N, .int .i64 0]) ∧ IRow w' Br 3 (certL l)) ∧ Below W.heap.size W w') := fun W h => (pProve A l c W (hF.next h) hv h7 (hT.next h)).mono fun e w' hq => ⟨by have h1 := hq.out; rwa [hN] at h1, hq.below⟩
  rw [hn] at hlast
  have hgL : Hid ((certL l)[R]? = some (-1)) := by
    have h1 : (certL l)[R]? = some ((certL l)[R]'(by have := hLc.out; omega)) := List.getElem?_eq_getElem _
    have h2 := oE_eq h1
    rw [hlast] at h2
    show (certL l)[R]? = some (-1)
    rw [h1, ← h2]
  have hP : Hid (∀ W, Below w.heap.size w W → Calls Tryd.prog 13 #[.slice A l.length c] W fun e w' => e = .returned (.tuple #[.agg #[.slice none 0 0, .slice none 0 0], .int .i64 9]) ∧ Below W.heap.size W w') := fun W h => ((hF.next h).pPair hv h7 (hT.next h)).mono fun e w' hq => ⟨hq.1 hn, hq.2.2⟩
  have hno : valR l o v = -1 := Classical.byContradiction fun h => (allR_ge h7 hv.num h).1 hn
  have hA : Hid (∀ W, Below w.heap.size w W → Calls Tryd.prog 21 #[.slice A l.length c, .agg #[.slice O o.length co, .slice V v.length cv]] W fun e w' => e = .returned (.tuple #[.bool false, .int .i64 0]) ∧ Below W.heap.size W w') := fun W h => pAllowed_no A O V l o v c co cv W (hF.next h) (hM.next h) (by omega) (by omega) hv hno
  clear hG hM hT hf hF hv hn hN hR hcok hlast hno
  go_enter Tryd.func8, Tryd.ntmps8
  go_upto_region 1 with fail
  generalize w.heap.size = B0 at hX ⊢
  generalize w.alloc (.cells #[.slice O o.length co, .slice V v.length cv] 30) = u at *
  have x0 := hX.out.c0
  have x1 := hX.out.c1
  go_wp2_with fail
  go_at_call 12
  refine (hfe.out _ hb.out).mono ?_
  rintro e u9 ⟨rfl, rfl⟩
  clear hfe
  go_wp2_with fail
  go_at_call 13
  refine (hP.out _ hb.out).mono ?_
  rintro e u ⟨rfl, hbn⟩
  replace hX := Lib.hid (hX.out.next hbn)
  replace hb := Lib.hid (hb.out.trans (hbn.mono hb.out.size))
  clear hbn
  clear x0 x1
  have x0 := hX.out.c0
  have x1 := hX.out.c1
  have hbn : Below u.heap.size u (u.alloc (.cells #[.slice none 0 0, .slice none 0 0] 30)) := (Below.refl _ _).alloc (Nat.le_refl _) _
  have hY := Lib.hid (RB.new u (.slice none 0 0) (.slice none 0 0))
  replace hX := Lib.hid (hX.out.next hbn)
  replace hb := Lib.hid (hb.out.trans (hbn.mono hb.out.size))
  clear hbn
  clear x0 x1
  go_upto_region 4 with fail
  generalize u.heap.size = BhY at hY ⊢
  generalize u.alloc (.cells #[.slice none 0 0, .slice none 0 0] 30) = u1 at *
  clear u
  obtain ⟨u, hu⟩ : ∃ u, u = u1 := ⟨_, rfl⟩
  subst hu
  have x0 := hX.out.c0
  have x1 := hX.out.c1
  have y0 := hY.out.c0
  have y1 := hY.out.c1
  go_wp2_with fail
  go_at_call 25
  refine (hPr.out _ hb.out).mono ?_
  rintro e u ⟨hpr, hbn⟩
  obtain ⟨Br, rfl, hIc⟩ := hpr
  replace hIc := Lib.hid hIc
  replace hX := Lib.hid (hX.out.next hbn)
  replace hY := Lib.hid (hY.out.next hbn)
  replace hb := Lib.hid (hb.out.trans (hbn.mono hb.out.size))
  clear hbn
  clear x0 x1
  have x0 := hX.out.c0
  have x1 := hX.out.c1
  clear y0 y1
  have y0 := hY.out.c0
  have y1 := hY.out.c1
  have z9 := hIc.out.cell hgL.out
  go_wp2_with fail
  go_at_call 21
  refine (hA.out _ hb.out).mono ?_
  rintro e u ⟨rfl, hbn⟩
  clear z9
  replace hX := Lib.hid (hX.out.next hbn)
  replace hY := Lib.hid (hY.out.next hbn)
  replace hb := Lib.hid (hb.out.trans (hbn.mono hb.out.size))
  clear hbn
  clear x0 x1
  have x0 := hX.out.c0
  have x1 := hX.out.c1
  clear y0 y1
  have y0 := hY.out.c0
  have y1 := hY.out.c1
  go_wp2_with fail
  go_at_call 9
  refine (hK.out _ hb.out).mono ?_
  rintro e u ⟨rfl, hbn⟩
  replace hX := Lib.hid (hX.out.next hbn)
  replace hY := Lib.hid (hY.out.next hbn)
  replace hb := Lib.hid (hb.out.trans (hbn.mono hb.out.size))
  clear hbn
  clear x0 x1
  have x0 := hX.out.c0
  have x1 := hX.out.c1
  clear y0 y1
  have y0 := hY.out.c0
  have y1 := hY.out.c1
  go_wp2_with fail
  go_ret
  exact ⟨rfl, hb.out⟩
set_option maxRecDepth 100000 in
set_option maxHeartbeats 16000000 in
theorem ph_yes (A : Option Addr) (l : List Ent) (c : Nat) (O : Option Addr) (o : List Int) (co : Nat) (V : Option Addr) (v : List Bool) (cv : Nat) (a b : Nat) (w : World) (hG : FI w A l c) (hM : RM w O V o v) (ha : a ≤ 255) (hbb : b ≤ 255) (hT : TabOK w) (hf : fewP l) (h8 : ¬ 8 < o.length) (h9 : ¬ 8 < v.length) (hv : okF l) (hn : bst l (fullS l) ≠ -1) : Calls Tryd.prog 8 #[.slice A l.length c, .agg #[.slice O o.length co, .slice V v.length cv], .int .u8 (a : Int), .int .u8 (b : Int)] w fun e w' => e = .returned (.bool true) ∧ Below w.heap.size w w' := by
  have hfe : Hid (∀ W, Below w.heap.size w W → Calls Tryd.prog 12 #[.slice A l.length c] W fun e w' => e = .returned (.bool (fewB l)) ∧ W = w') := fun W h => lfew A l c W (hG.next h)
  have hK : Hid (∀ W, Below w.heap.size w W → Calls Tryd.prog 9 #[] W fun e w' => e = .returned (.bool true) ∧ Below W.heap.size W w') := fun W h => known_43 W (hT.next h)
  have hX := Lib.hid (RB.new w (.slice O o.length co) (.slice V v.length cv))
  have hb : Hid (Below w.heap.size w (w.alloc (.cells #[.slice O o.length co, .slice V v.length cv] 30))) := (Below.refl _ _).alloc (Nat.le_refl _) _
  have q1 : ¬ (8 : Int) < (o.length : Int) := by omega
  have q2 : ¬ (8 : Int) < (v.length : Int) := by omega
  rw [fewB_yes hf] at hfe
  have hF := hG.few hf
  have h7 := hf.2
  obtain ⟨N, hN⟩ : ∃ N, 2 ^ szE l = N := ⟨_, rfl⟩
  have hN256 : N ≤ 256 := by rw [← hN]; exact full_lt (szE_le h7).1
  have hl2 : 0 < l.length := by have := hv.1; omega
  have hN4 : 4 ≤ N := by
    have h1 : 2 ^ 2 ≤ 2 ^ szE l := Nat.pow_le_pow_right (show 2 > 0 by decide) (by have h2 : szE l = l.length + l.length % 2 := rfl; have := hv.1; omega)
    omega
  have hLc : Hid ((certL l).length = N) := (certL_len l).trans hN
  obtain ⟨R, hR⟩ : ∃ R, N - 1 = R := ⟨_, rfl⟩
  have gR : IntKind.i64.wrap ((N : Int) - 1) = (R : Int) := by rw [show (N : Int) - 1 = (R : Int) by omega]; exact i64_nat (by omega)
  have hRN : (R : Int) < (N : Int) := by omega
  have hR0 : (0 : Int) ≤ (R : Int) := Int.natCast_nonneg _
  have hN0q : ((N : Int) == 0) = false := by rw [beq_eq_false_iff_ne]; omega
  have hN0e : (N = 0) = False := eq_false (by omega)
  have hcok := certL_ok h7 hv.num
  have hlast := certL_last h7 (l := l)
  rw [hN, hR] at hlast
  have hPr : Hid (∀ W, Below w.heap.size w W → Calls Tryd.prog 25 #[.slice A l.length c] W fun e w' => (∃ Br : Nat, e = .returned (.tuple #[.slice (some ⟨Br, 0, none⟩) N N, .int .i64 0]) ∧ IRow w' Br 3 (certL l)) ∧ Below W.heap.size W w') := fun W h => (pProve A l c W (hF.next h) hv h7 (hT.next h)).mono fun e w' hq => ⟨by have h1 := hq.out; rwa [hN] at h1, hq.below⟩
  obtain ⟨B, hB0, hBe⟩ : ∃ B : Int, 0 ≤ B ∧ bst l (fullS l) = B := ⟨_, by rcases best_is h7 hv.num with h | h; exact absurd h.1 hn; exact h.1, rfl⟩
  have hres : valR l (resO l) (resW l) = B := by rcases best_is h7 hv.num with h | h; exact absurd h.1 hn; rw [← hBe, ← h.2.2.2.1]; exact h.2.2.1
  rw [hBe] at hlast
  have hgL : Hid ((certL l)[R]? = some B) := by
    have h1 : (certL l)[R]? = some ((certL l)[R]'(by have := hLc.out; omega)) := List.getElem?_eq_getElem _
    have h2 := oE_eq h1
    rw [hlast] at h2
    show (certL l)[R]? = some B
    rw [h1, ← h2]
  have hP : Hid (∀ W, Below w.heap.size w W → Calls Tryd.prog 13 #[.slice A l.length c] W fun e w' => PairR l e w' ∧ Below W.heap.size W w') := fun W h => ((hF.next h).pPair hv h7 (hT.next h)).mono fun e w' hq => ⟨hq.2.1 hn, hq.2.2⟩
  obtain ⟨IS, M, I2, hA, hVr, hIS⟩ : ∃ (IS : Bool) (M I2 : Int), Hid (∀ W, Below w.heap.size w W → Calls Tryd.prog 21 #[.slice A l.length c, .agg #[.slice O o.length co, .slice V v.length cv]] W fun e w' => e = .returned (.tuple #[.bool IS, .int .i64 0]) ∧ Below W.heap.size W w') ∧ Hid (∀ W, Below w.heap.size w W → Calls Tryd.prog 22 #[.slice A l.length c, .agg #[.slice O o.length co, .slice V v.length cv]] W fun e w' => e = .returned (.tuple #[.int .i64 M, .int .i64 I2]) ∧ Below W.heap.size W w') ∧ (IS = true → I2 = 0 ∧ B ≤ M) := by
    by_cases hk : valR l o v = -1
    · exact ⟨false, 0, 2, fun W h => pAllowed_no A O V l o v c co cv W (hF.next h) (hM.next h) (by omega) (by omega) hv hk, fun W h => pValue_no A O V l o v c co cv W (hF.next h) (hM.next h) (by omega) (by omega) hv hk, fun h => by cases h⟩
    · exact ⟨true, valR l o v, 0, fun W h => pAllowed_ok A O V l o v c co cv W (hF.next h) (hM.next h) (by omega) (by omega) hv hk, fun W h => pValue_ok A O V l o v c co cv W (hF.next h) (hM.next h) (by omega) (by omega) hv hk, fun _ => ⟨rfl, by rw [← hBe]; exact (allR_ge h7 hv.num hk).2⟩⟩
  have hFH := Lib.hid hF
  have hvH := Lib.hid hv
  have hTH := Lib.hid hT
  have hNH := Lib.hid hN
  have hRH := Lib.hid hR
  have hcokH := Lib.hid hcok
  have hlastH := Lib.hid hlast
  have hBeH := Lib.hid hBe
  have hnH := Lib.hid hn
  have hresH := Lib.hid hres
  clear hG hM hT hf hF hv hn hN hR hcok hlast hBe hres
  go_enter Tryd.func8, Tryd.ntmps8
  go_upto_region 1 with fail
  generalize w.heap.size = B0 at hX ⊢
  generalize w.alloc (.cells #[.slice O o.length co, .slice V v.length cv] 30) = u at *
  have x0 := hX.out.c0
  have x1 := hX.out.c1
  go_wp2_with fail
  go_at_call 12
  refine (hfe.out _ hb.out).mono ?_
  rintro e u9 ⟨rfl, rfl⟩
  clear hfe
  go_wp2_with fail
  go_at_call 13
  refine (hP.out _ hb.out).mono ?_
  rintro e u ⟨hpr, hbn⟩
  obtain ⟨Bo, Bw, rfl, hO1, hW1⟩ := hpr.out
  clear hpr
  have hMp : Hid (RM u (some ⟨Bo, 0, none⟩) (some ⟨Bw, 0, none⟩) (resO l) (resW l)) := ⟨hO1.recs, hW1.recs⟩
  clear hO1 hW1
  replace hX := Lib.hid (hX.out.next hbn)
  replace hb := Lib.hid (hb.out.trans (hbn.mono hb.out.size))
  clear hbn
  clear x0 x1
  have x0 := hX.out.c0
  have x1 := hX.out.c1
  have hbn : Below u.heap.size u (u.alloc (.cells #[.slice (some ⟨Bo, 0, none⟩) l.length l.length, .slice (some ⟨Bw, 0, none⟩) l.length l.length] 30)) := (Below.refl _ _).alloc (Nat.le_refl _) _
  have hY := Lib.hid (RB.new u (.slice (some ⟨Bo, 0, none⟩) l.length l.length) (.slice (some ⟨Bw, 0, none⟩) l.length l.length))
  replace hX := Lib.hid (hX.out.next hbn)
  replace hMp := Lib.hid (hMp.out.next hbn)
  replace hb := Lib.hid (hb.out.trans (hbn.mono hb.out.size))
  clear hbn
  clear x0 x1
  go_upto_region 4 with fail
  generalize u.heap.size = BhY at hY ⊢
  generalize u.alloc (.cells #[.slice (some ⟨Bo, 0, none⟩) l.length l.length, .slice (some ⟨Bw, 0, none⟩) l.length l.length] 30) = u1 at *
  clear u
  obtain ⟨u, hu⟩ : ∃ u, u = u1 := ⟨_, rfl⟩
  subst hu
  have x0 := hX.out.c0
  have x1 := hX.out.c1
  have y0 := hY.out.c0
  have y1 := hY.out.c1
  go_wp2_with fail
  go_at_call 25
  refine (hPr.out _ hb.out).mono ?_
  rintro e u ⟨hpr, hbn⟩
  obtain ⟨Br, rfl, hIc⟩ := hpr
  replace hIc := Lib.hid hIc
  replace hX := Lib.hid (hX.out.next hbn)
  replace hY := Lib.hid (hY.out.next hbn)
  replace hMp := Lib.hid (hMp.out.next hbn)
  replace hb := Lib.hid (hb.out.trans (hbn.mono hb.out.size))
  clear hbn
  clear x0 x1
  have x0 := hX.out.c0
  have x1 := hX.out.c1
  clear y0 y1
  have y0 := hY.out.c0
  have y1 := hY.out.c1
  clear hP hPr
  have z9 := hIc.out.cell hgL.out
  go_wp2_with fail
  go_at_call 21
  refine (hA.out _ hb.out).mono ?_
  rintro e u ⟨rfl, hbn⟩
  replace hIc := Lib.hid (hIc.out.next hbn)
  clear z9 hA
  replace hX := Lib.hid (hX.out.next hbn)
  replace hY := Lib.hid (hY.out.next hbn)
  replace hMp := Lib.hid (hMp.out.next hbn)
  replace hb := Lib.hid (hb.out.trans (hbn.mono hb.out.size))
  clear hbn
  clear x0 x1
  have x0 := hX.out.c0
  have x1 := hX.out.c1
  clear y0 y1
  have y0 := hY.out.c0
  have y1 := hY.out.c1
  go_upto_region 10 with fail
  obtain ⟨u2, hu2⟩ : ∃ u2, u2 = u := ⟨_, rfl⟩
  go_cut [100] from 92 to 100 (fun s100 wc => s100 = .bool false ∧ wc = u)
  case first =>
    cases IS with
    | true =>
      go_wp2_with fail
      go_meet
      exact ⟨rfl, rfl⟩
    | false =>
      go_wp2_with fail
      go_meet
      exact ⟨rfl, rfl⟩
  case rest =>
    obtain ⟨rfl, hwc⟩ := hcut
    subst hwc
    have hV1 : Hid (Calls Tryd.prog 22 #[.slice A l.length c, .agg #[.slice (some ⟨Bo, 0, none⟩) l.length l.length, .slice (some ⟨Bw, 0, none⟩) l.length l.length]] wc fun e w' => e = .returned (.tuple #[.int .i64 B, .int .i64 0]) ∧ Below wc.heap.size wc w') := by
      have h1 := pValue_ok A (some ⟨Bo, 0, none⟩) (some ⟨Bw, 0, none⟩) l (resO l) (resW l) c l.length l.length wc (hFH.out.next hb.out) hMp.out (by rw [resO_len]; omega) (by rw [resW_len]; omega) hvH.out (by rw [hresH.out]; omega)
      rw [resO_len, resW_len, hresH.out] at h1
      exact h1
    go_wp2_with fail
    go_at_call 22
    refine (hV1.out).mono ?_
    rintro e u ⟨rfl, hbn⟩
    replace hX := Lib.hid (hX.out.next hbn)
    replace hY := Lib.hid (hY.out.next hbn)
    replace hMp := Lib.hid (hMp.out.next hbn)
    replace hIc := Lib.hid (hIc.out.next hbn)
    replace hb := Lib.hid (hb.out.trans (hbn.mono hb.out.size))
    clear hbn
    clear x0 x1
    have x0 := hX.out.c0
    have x1 := hX.out.c1
    clear y0 y1
    have y0 := hY.out.c0
    have y1 := hY.out.c1
    clear hV1
    have hc2 : Hid (Calls Tryd.prog 26 #[.slice A l.length c, .agg #[.slice (some ⟨Bo, 0, none⟩) l.length l.length, .slice (some ⟨Bw, 0, none⟩) l.length l.length], .slice (some ⟨Br, 0, none⟩) N N] u fun e w' => e = .returned (.int .i64 0) ∧ Below u.heap.size u w') := by
      have h1 := pCheck A (some ⟨Bo, 0, none⟩) (some ⟨Bw, 0, none⟩) (some ⟨Br, 0, none⟩) l (resO l) (resW l) (certL l) c l.length l.length N u (hFH.out.next hb.out) hMp.out hIc.out.recs (by rw [resO_len]; omega) (by rw [resW_len]; omega) (by have := hLc.out; omega) hvH.out h7 (hTH.out.next hb.out)
      rw [hLc.out, resO_len, resW_len, chkE_yes ⟨by rw [hresH.out]; omega, hcokH.out, by rw [hNH.out, hRH.out, hlastH.out, hresH.out]⟩] at h1
      exact h1
    go_wp2_with fail
    go_at_call 26
    refine (hc2.out).mono ?_
    rintro e u ⟨rfl, hbn⟩
    replace hX := Lib.hid (hX.out.next hbn)
    replace hb := Lib.hid (hb.out.trans (hbn.mono hb.out.size))
    clear hbn
    clear x0 x1
    have x0 := hX.out.c0
    have x1 := hX.out.c1
    clear hc2 hY hMp hIc y0 y1
    go_wp2_with fail
    go_at_call 22
    refine (hVr.out _ hb.out).mono ?_
    rintro e u ⟨rfl, hbn⟩
    replace hX := Lib.hid (hX.out.next hbn)
    replace hb := Lib.hid (hb.out.trans (hbn.mono hb.out.size))
    clear hbn
    clear x0 x1
    have x0 := hX.out.c0
    have x1 := hX.out.c1
    clear hVr hX x0 x1
    go_upto_region 18 with fail
    go_cut [134] from 125 to 134 (fun s134 wc => s134 = .bool false ∧ wc = u)
    case first =>
      cases IS with
      | true =>
        obtain ⟨hI2, hMB⟩ := hIS rfl
        subst hI2
        have k1 : (M < B) = False := eq_false (by omega)
        go_wp2_with fail
        go_meet
        exact ⟨rfl, rfl⟩
      | false =>
        go_wp2_with fail
        go_meet
        exact ⟨rfl, rfl⟩
    case rest =>
      obtain ⟨rfl, hwc⟩ := hcut
      subst hwc
      clear hIS gR hRN hR0 hN0q hN0e
      obtain ⟨X, hX⟩ : ∃ X, a % l.length = X := ⟨_, rfl⟩
      obtain ⟨Y, hY⟩ : ∃ Y, b % l.length = Y := ⟨_, rfl⟩
      have hXl : X < l.length := by rw [← hX]; exact Nat.mod_lt _ hl2
      have hYl : Y < l.length := by rw [← hY]; exact Nat.mod_lt _ hl2
      have m1 : IntKind.i64.wrap (a : Int) = (a : Int) := i64_nat (by omega)
      have m2 : IntKind.i64.wrap (b : Int) = (b : Int) := i64_nat (by omega)
      have m3 : (a : Int).tmod (l.length : Int) = (X : Int) := by rw [← hX]; rfl
      have m4 : (b : Int).tmod (l.length : Int) = (Y : Int) := by rw [← hY]; rfl
      have m5 : IntKind.i64.wrap (X : Int) = (X : Int) := i64_nat (by omega)
      have m6 : IntKind.i64.wrap (Y : Int) = (Y : Int) := i64_nat (by omega)
      have m7 : ((l.length : Int) == 0) = false := by rw [beq_eq_false_iff_ne]; omega
      have m8 : ((l.length : Int) = 0) = False := eq_false (by omega)
      have m9 : (l.length = 0) = False := eq_false (by omega)
      have m10 : (l = []) = False := eq_false (fun h => by rw [h] at hl2; exact absurd hl2 (by decide))
      clear hX hY
      go_upto_region 20 with fail
      go_quiet (fail)
      clear m1 m2 m3 m4 m5 m6 m7 m8 m9 m10
      have hFk : Hid (∀ k, FH (World.drewN wc k) A l c ∧ Below w.heap.size w (World.drewN wc k)) := fun k => ⟨hFH.out.next (below_drewN hb.out k), below_drewN hb.out k⟩
      obtain ⟨u3, hu3⟩ : ∃ u3, World.drewN wc nq = u3 := ⟨_, rfl⟩
      have hFb := Lib.hid (hFk.out nq).1
      have hbq := Lib.hid (hFk.out nq).2
      rw [hu3] at hFb hbq ⊢
      clear hu3 hb hFk
      go_upto_region 22 with (at_builtin; refine wpList_append_recs entRow eEnc_len eEnc_one rfl _ _ rfl u3.heap.size none 0 [] rfl owns_nil A c l rfl hFb.out.fld.row (by simp only [List.length_nil]; omega) (Nat.le_refl _) ?_; intro A2 c2 w5 hown hg _; rw [List.nil_append] at hown; rw [show ([] ++ l : List Ent).length = l.length from rfl]; have hO : Hid (O1 eEnc 8 u3.heap.size 25 u3 w5 A2 c2 l) := (O1.nil (Below.refl _ _) (Nat.le_refl _)).app hown hg; clear hown hg)
      obtain ⟨g, rfl, hg1, hg2⟩ := hO.out.form hl2
      obtain ⟨bk, off, hAt, hbk, hE⟩ := ent8 hFb.out.fld.row hl2
      subst hAt
      obtain ⟨ex, hex⟩ : ∃ e, l[X]? = some e := ⟨_, List.getElem?_eq_getElem hXl⟩
      obtain ⟨ey, hey⟩ : ∃ e, l[Y]? = some e := ⟨_, List.getElem?_eq_getElem hYl⟩
      have hEx := Lib.hid (hE X ex hex)
      have hEy := Lib.hid (hE Y ey hey)
      have hex2 := Lib.hid (en_eq hex)
      have hey2 := Lib.hid (en_eq hey)
      have hS : Hid (∀ W, Below u3.heap.size u3 W → W.cell? ⟨bk, off + X * 8, none⟩ = some (.string ex.name) ∧ W.cell? ⟨bk, off + X * 8 + 1, none⟩ = some (.int .i64 ex.rating) ∧ W.cell? ⟨bk, off + X * 8 + 2, none⟩ = some (.int .i64 ex.score) ∧ W.cell? ⟨bk, off + X * 8 + 3, none⟩ = some (.int .i64 ex.whites) ∧ W.cell? ⟨bk, off + X * 8 + 4, none⟩ = some (.int .i64 ex.blacks) ∧ W.cell? ⟨bk, off + X * 8 + 5, none⟩ = some (.int .i64 ex.last) ∧ W.cell? ⟨bk, off + X * 8 + 6, none⟩ = some (.bool ex.bye) ∧ W.cell? ⟨bk, off + X * 8 + 7, none⟩ = some (.slice ex.mA ex.met.length ex.mc) ∧ W.cell? ⟨bk, off + Y * 8, none⟩ = some (.string ey.name) ∧ W.cell? ⟨bk, off + Y * 8 + 1, none⟩ = some (.int .i64 ey.rating) ∧ W.cell? ⟨bk, off + Y * 8 + 2, none⟩ = some (.int .i64 ey.score) ∧ W.cell? ⟨bk, off + Y * 8 + 3, none⟩ = some (.int .i64 ey.whites) ∧ W.cell? ⟨bk, off + Y * 8 + 4, none⟩ = some (.int .i64 ey.blacks) ∧ W.cell? ⟨bk, off + Y * 8 + 5, none⟩ = some (.int .i64 ey.last) ∧ W.cell? ⟨bk, off + Y * 8 + 6, none⟩ = some (.bool ey.bye) ∧ W.cell? ⟨bk, off + Y * 8 + 7, none⟩ = some (.slice ey.mA ey.met.length ey.mc)) := fun W h => by
        have h1 := hEx.out.next hbk h
        have h2 := hEy.out.next hbk h
        exact ⟨h1.e0, h1.e1, h1.e2, h1.e3, h1.e4, h1.e5, h1.e6, h1.e7, h2.e0, h2.e1, h2.e2, h2.e3, h2.e4, h2.e5, h2.e6, h2.e7⟩
      have hO2 : Hid (O1 eEnc 8 u3.heap.size 25 u3 (((((((((w5.setCell ⟨g, X * 8, none⟩ (.string ey.name)).setCell ⟨g, X * 8 + 1, none⟩ (.int .i64 ey.rating)).setCell ⟨g, X * 8 + 2, none⟩ (.int .i64 ey.score)).setCell ⟨g, X * 8 + 3, none⟩ (.int .i64 ey.whites)).setCell ⟨g, X * 8 + 4, none⟩ (.int .i64 ey.blacks)).setCell ⟨g, X * 8 + 5, none⟩ (.int .i64 ey.last)).setCell ⟨g, X * 8 + 6, none⟩ (.bool ey.bye)).setCell ⟨g, X * 8 + 7, none⟩ (.slice ey.mA ey.met.length ey.mc)).drew) (some ⟨g, 0, none⟩) c2 (l.set X ey)) := (hO.out.set8 X ey).drew
      have rx := e8_row hO.out hex
      have fz := fun k => World.ownsRow.frozenAt hO.out.own k
      obtain ⟨rx0, rx1, rx2, rx3, rx4, rx5, rx6, rx7⟩ := rx
      have hXI : (X : Int) < (l.length : Int) := by omega
      have hYI : (Y : Int) < (l.length : Int) := by omega
      have hX0 : (0 : Int) ≤ (X : Int) := Int.natCast_nonneg _
      have hY0 : (0 : Int) ≤ (Y : Int) := Int.natCast_nonneg _
      have hXn : X < l.length := hXl
      have hYn : Y < l.length := hYl
      have hey3 : Hid ((l.set X ey)[Y]? = some ey) := by
        show _ = _
        rw [List.getElem?_set]
        by_cases e : X = Y
        · rw [if_pos e, if_pos hXl]
        · rw [if_neg e]; exact hey
      clear hE hex hey
      refine wp_region_held_drew (S := fun W => W.cell? ⟨bk, off + X * 8, none⟩ = some (.string ex.name) ∧ W.cell? ⟨bk, off + X * 8 + 1, none⟩ = some (.int .i64 ex.rating) ∧ W.cell? ⟨bk, off + X * 8 + 2, none⟩ = some (.int .i64 ex.score) ∧ W.cell? ⟨bk, off + X * 8 + 3, none⟩ = some (.int .i64 ex.whites) ∧ W.cell? ⟨bk, off + X * 8 + 4, none⟩ = some (.int .i64 ex.blacks) ∧ W.cell? ⟨bk, off + X * 8 + 5, none⟩ = some (.int .i64 ex.last) ∧ W.cell? ⟨bk, off + X * 8 + 6, none⟩ = some (.bool ex.bye) ∧ W.cell? ⟨bk, off + X * 8 + 7, none⟩ = some (.slice ex.mA ex.met.length ex.mc) ∧ W.cell? ⟨bk, off + Y * 8, none⟩ = some (.string ey.name) ∧ W.cell? ⟨bk, off + Y * 8 + 1, none⟩ = some (.int .i64 ey.rating) ∧ W.cell? ⟨bk, off + Y * 8 + 2, none⟩ = some (.int .i64 ey.score) ∧ W.cell? ⟨bk, off + Y * 8 + 3, none⟩ = some (.int .i64 ey.whites) ∧ W.cell? ⟨bk, off + Y * 8 + 4, none⟩ = some (.int .i64 ey.blacks) ∧ W.cell? ⟨bk, off + Y * 8 + 5, none⟩ = some (.int .i64 ey.last) ∧ W.cell? ⟨bk, off + Y * 8 + 6, none⟩ = some (.bool ey.bye) ∧ W.cell? ⟨bk, off + Y * 8 + 7, none⟩ = some (.slice ey.mA ey.met.length ey.mc)) (by kernel_rfl) (hS.out _ (hO.out.below.drew)) (fun hHeld => ?_)
      refine wpAnyH_take (i := 0) (v := ?_) rfl (by kernel_rfl) (by kernel_rfl) (by kernel_rfl) (fun _ _ _ h => h) (Or.inl ⟨by rfl, ?_⟩) hHeld ?_
      rotate_left
      · intro W9 hSw; (try dsimp only at hSw); go_simp; (try with_reducible rfl)
      simp only [Act.put, List.getElem_toArray, List.getElem_cons_zero, List.getElem_cons_succ, List.setIfInBounds_toArray, List.set_cons_zero, List.set_cons_succ]
      refine wpAnyH_take (i := 1) (v := ?_) rfl (by kernel_rfl) (by kernel_rfl) (by kernel_rfl) (fun _ _ _ h => h) (Or.inl ⟨by rfl, ?_⟩) hHeld ?_
      rotate_left
      · intro W9 hSw; (try dsimp only at hSw); go_simp; (try with_reducible rfl)
      simp only [Act.put, List.getElem_toArray, List.getElem_cons_zero, List.getElem_cons_succ, List.setIfInBounds_toArray, List.set_cons_zero, List.set_cons_succ]
      refine wpAnyH_take (i := 2) (v := ?_) rfl (by kernel_rfl) (by kernel_rfl) (by kernel_rfl) (fun _ _ _ h => h) (Or.inl ⟨by rfl, ?_⟩) hHeld ?_
      rotate_left
      · intro W9 hSw; (try dsimp only at hSw); go_simp; (try with_reducible rfl)
      simp only [Act.put, List.getElem_toArray, List.getElem_cons_zero, List.getElem_cons_succ, List.setIfInBounds_toArray, List.set_cons_zero, List.set_cons_succ]
      refine wpAnyH_take (i := 3) (v := ?_) rfl (by kernel_rfl) (by kernel_rfl) (by kernel_rfl) (fun _ _ _ h => h) (Or.inl ⟨by rfl, ?_⟩) hHeld ?_
      rotate_left
      · intro W9 hSw; (try dsimp only at hSw); go_simp; (try with_reducible rfl)
      simp only [Act.put, List.getElem_toArray, List.getElem_cons_zero, List.getElem_cons_succ, List.setIfInBounds_toArray, List.set_cons_zero, List.set_cons_succ]
      refine wpAnyH_take (i := 4) (v := ?_) rfl (by kernel_rfl) (by kernel_rfl) (by kernel_rfl) (fun _ _ _ h => h) (Or.inl ⟨by rfl, ?_⟩) hHeld ?_
      rotate_left
      · intro W9 hSw; (try dsimp only at hSw); go_simp; (try with_reducible rfl)
      simp only [Act.put, List.getElem_toArray, List.getElem_cons_zero, List.getElem_cons_succ, List.setIfInBounds_toArray, List.set_cons_zero, List.set_cons_succ]
      refine wpAnyH_take (i := 5) (v := ?_) rfl (by kernel_rfl) (by kernel_rfl) (by kernel_rfl) (fun _ _ _ h => h) (Or.inl ⟨by rfl, ?_⟩) hHeld ?_
      rotate_left
      · intro W9 hSw; (try dsimp only at hSw); go_simp; (try with_reducible rfl)
      simp only [Act.put, List.getElem_toArray, List.getElem_cons_zero, List.getElem_cons_succ, List.setIfInBounds_toArray, List.set_cons_zero, List.set_cons_succ]
      refine wpAnyH_take (i := 6) (v := ?_) rfl (by kernel_rfl) (by kernel_rfl) (by kernel_rfl) (fun _ _ _ h => h) (Or.inl ⟨by rfl, ?_⟩) hHeld ?_
      rotate_left
      · intro W9 hSw; (try dsimp only at hSw); go_simp; (try with_reducible rfl)
      simp only [Act.put, List.getElem_toArray, List.getElem_cons_zero, List.getElem_cons_succ, List.setIfInBounds_toArray, List.set_cons_zero, List.set_cons_succ]
      refine wpAnyH_take (i := 7) (v := ?_) rfl (by kernel_rfl) (by kernel_rfl) (by kernel_rfl) (fun _ _ _ h => h) (Or.inl ⟨by rfl, ?_⟩) hHeld ?_
      rotate_left
      · intro W9 hSw; (try dsimp only at hSw); go_simp; (try with_reducible rfl)
      simp only [Act.put, List.getElem_toArray, List.getElem_cons_zero, List.getElem_cons_succ, List.setIfInBounds_toArray, List.set_cons_zero, List.set_cons_succ]
      refine wpAnyH_take (i := 8) (v := ?_) rfl (by kernel_rfl) (by kernel_rfl) (by kernel_rfl) (fun _ _ _ h => h) (Or.inl ⟨by rfl, ?_⟩) hHeld ?_
      rotate_left
      · intro W9 hSw; (try dsimp only at hSw); go_simp; (try with_reducible rfl)
      simp only [Act.put, List.getElem_toArray, List.getElem_cons_zero, List.getElem_cons_succ, List.setIfInBounds_toArray, List.set_cons_zero, List.set_cons_succ]
      refine wpAnyH_take (i := 9) (v := ?_) rfl (by kernel_rfl) (by kernel_rfl) (by kernel_rfl) (fun _ _ _ h => h) (Or.inl ⟨by rfl, ?_⟩) hHeld ?_
      rotate_left
      · intro W9 hSw; (try dsimp only at hSw); go_simp; (try with_reducible rfl)
      simp only [Act.put, List.getElem_toArray, List.getElem_cons_zero, List.getElem_cons_succ, List.setIfInBounds_toArray, List.set_cons_zero, List.set_cons_succ]
      refine wpAnyH_take (i := 10) (v := ?_) rfl (by kernel_rfl) (by kernel_rfl) (by kernel_rfl) (fun _ _ _ h => h) (Or.inl ⟨by rfl, ?_⟩) hHeld ?_
      rotate_left
      · intro W9 hSw; (try dsimp only at hSw); go_simp; (try with_reducible rfl)
      simp only [Act.put, List.getElem_toArray, List.getElem_cons_zero, List.getElem_cons_succ, List.setIfInBounds_toArray, List.set_cons_zero, List.set_cons_succ]
      refine wpAnyH_take (i := 11) (v := ?_) rfl (by kernel_rfl) (by kernel_rfl) (by kernel_rfl) (fun _ _ _ h => h) (Or.inl ⟨by rfl, ?_⟩) hHeld ?_
      rotate_left
      · intro W9 hSw; (try dsimp only at hSw); go_simp; (try with_reducible rfl)
      simp only [Act.put, List.getElem_toArray, List.getElem_cons_zero, List.getElem_cons_succ, List.setIfInBounds_toArray, List.set_cons_zero, List.set_cons_succ]
      refine wpAnyH_take (i := 12) (v := ?_) rfl (by kernel_rfl) (by kernel_rfl) (by kernel_rfl) (fun _ _ _ h => h) (Or.inl ⟨by rfl, ?_⟩) hHeld ?_
      rotate_left
      · intro W9 hSw; (try dsimp only at hSw); go_simp; (try with_reducible rfl)
      simp only [Act.put, List.getElem_toArray, List.getElem_cons_zero, List.getElem_cons_succ, List.setIfInBounds_toArray, List.set_cons_zero, List.set_cons_succ]
      refine wpAnyH_ready (rs := [13]) (by kernel_rfl) (by simp) ?_
      refine AllReadyH.cons rfl (fun K hK => ?_) AllReadyH.nil
      go_simp
      refine hK.out _ _ (hS.out _ hO2.out.below) (fun hHeld2 => ?_)
      clear hK K hHeld
      have hHeld := hHeld2
      clear hHeld2
      clear rx0 rx1 rx2 rx3 rx4 rx5 rx6 rx7 fz
      have hO6 : Hid (O1 eEnc 8 u3.heap.size 25 u3 (((((((((w5.setCell ⟨g, X * 8, none⟩ (.string ey.name)).setCell ⟨g, X * 8 + 1, none⟩ (.int .i64 ey.rating)).setCell ⟨g, X * 8 + 2, none⟩ (.int .i64 ey.score)).setCell ⟨g, X * 8 + 3, none⟩ (.int .i64 ey.whites)).setCell ⟨g, X * 8 + 4, none⟩ (.int .i64 ey.blacks)).setCell ⟨g, X * 8 + 5, none⟩ (.int .i64 ey.last)).setCell ⟨g, X * 8 + 6, none⟩ (.bool ey.bye)).setCell ⟨g, X * 8 + 7, none⟩ (.slice ey.mA ey.met.length ey.mc))) (some ⟨g, 0, none⟩) c2 (l.set X ey)) := hO.out.set8 X ey
      clear hO hO2
      generalize ((((((((w5.setCell ⟨g, X * 8, none⟩ (.string ey.name)).setCell ⟨g, X * 8 + 1, none⟩ (.int .i64 ey.rating)).setCell ⟨g, X * 8 + 2, none⟩ (.int .i64 ey.score)).setCell ⟨g, X * 8 + 3, none⟩ (.int .i64 ey.whites)).setCell ⟨g, X * 8 + 4, none⟩ (.int .i64 ey.blacks)).setCell ⟨g, X * 8 + 5, none⟩ (.int .i64 ey.last)).setCell ⟨g, X * 8 + 6, none⟩ (.bool ey.bye)).setCell ⟨g, X * 8 + 7, none⟩ (.slice ey.mA ey.met.length ey.mc)) = w6 at *
      have ry := e8_row hO6.out hey3.out
      have fz := fun k => World.ownsRow.frozenAt hO6.out.own k
      obtain ⟨ry0, ry1, ry2, ry3, ry4, ry5, ry6, ry7⟩ := ry
      have hO3 : Hid (O1 eEnc 8 u3.heap.size 25 u3 (((((((((w6.setCell ⟨g, Y * 8, none⟩ (.string ex.name)).setCell ⟨g, Y * 8 + 1, none⟩ (.int .i64 ex.rating)).setCell ⟨g, Y * 8 + 2, none⟩ (.int .i64 ex.score)).setCell ⟨g, Y * 8 + 3, none⟩ (.int .i64 ex.whites)).setCell ⟨g, Y * 8 + 4, none⟩ (.int .i64 ex.blacks)).setCell ⟨g, Y * 8 + 5, none⟩ (.int .i64 ex.last)).setCell ⟨g, Y * 8 + 6, none⟩ (.bool ex.bye)).setCell ⟨g, Y * 8 + 7, none⟩ (.slice ex.mA ex.met.length ex.mc)).drew) (some ⟨g, 0, none⟩) c2 ((l.set X ey).set Y ex)) := (hO6.out.set8 Y ex).drew
      refine wpAnyH_take (i := 14) (v := ?_) rfl (by kernel_rfl) (by kernel_rfl) (by kernel_rfl) (fun _ _ _ h => h) (Or.inl ⟨by rfl, ?_⟩) hHeld ?_
      rotate_left
      · intro W9 hSw; (try dsimp only at hSw); go_simp; (try with_reducible rfl)
      simp only [Act.put, List.getElem_toArray, List.getElem_cons_zero, List.getElem_cons_succ, List.setIfInBounds_toArray, List.set_cons_zero, List.set_cons_succ]
      refine wpAnyH_ready (rs := [15]) (by kernel_rfl) (by simp) ?_
      refine AllReadyH.cons rfl (fun K hK => ?_) AllReadyH.nil
      go_simp
      refine hK.out _ _ (hS.out _ hO3.out.below) (fun hHeld2 => ?_)
      clear hK K hHeld
      have hHeld := hHeld2
      clear hHeld2
      refine wpAnyH_done (by kernel_rfl) ?_ _
      clear hHeld hS ry0 ry1 ry2 ry3 ry4 ry5 ry6 ry7 fz hO6 hEx hEy hey3
      generalize ((((((((w6.setCell ⟨g, Y * 8, none⟩ (.string ex.name)).setCell ⟨g, Y * 8 + 1, none⟩ (.int .i64 ex.rating)).setCell ⟨g, Y * 8 + 2, none⟩ (.int .i64 ex.score)).setCell ⟨g, Y * 8 + 3, none⟩ (.int .i64 ex.whites)).setCell ⟨g, Y * 8 + 4, none⟩ (.int .i64 ex.blacks)).setCell ⟨g, Y * 8 + 5, none⟩ (.int .i64 ex.last)).setCell ⟨g, Y * 8 + 6, none⟩ (.bool ex.bye)).setCell ⟨g, Y * 8 + 7, none⟩ (.slice ex.mA ex.met.length ex.mc)).drew = w7 at *
      rw [← hex2.out, ← hey2.out] at hO3
      have hSW0 : Hid (SW u3 w7 l ((l.set X (en l Y)).set Y (en l X)) g c2 X Y 0) := SW.start hFb.out hg1 hXl hYl hO3.out
      clear hO3 hg2
      go_wp2_with fail
      go_loopw [22] (fun i wr => ∃ (k : Nat) (E : List Ent), k ≤ l.length ∧ i = .int .i64 k ∧ Hid (SW u3 wr l E g c2 X Y k)) (fun i _ => l.length - (intOf i).toNat)
      case atStart => exact ⟨0, _, by omega, rfl, hSW0⟩
      case round =>
        clear hSW0
        obtain ⟨k, E, hk, rfl, hSW⟩ := hrel
        have hk0 : (0 : Int) ≤ (k : Int) := Int.natCast_nonneg _
        by_cases hkn : k < l.length
        rotate_left
        · obtain rfl : k = l.length := by omega
          obtain ⟨hsw, hFE0⟩ := hSW.out.fin hFb.out hXl hYl
          obtain ⟨hn2, hB2⟩ := hsw.best hvH.out h7 hnH.out
          have hvE := hsw.ok hvH.out
          have hlE := hsw.len
          rw [hBeH.out] at hB2
          have hb : Hid (Below w.heap.size w wr) := hbq.out.trans (hSW.out.own.below.mono hbq.out.size)
          have hP2 : Hid (Calls Tryd.prog 13 #[.slice (some ⟨g, 0, none⟩) l.length c2] wr fun e w' => (∃ Bo Bw : Nat, e = .returned (.tuple #[.agg #[.slice (some ⟨Bo, 0, none⟩) l.length l.length, .slice (some ⟨Bw, 0, none⟩) l.length l.length], .int .i64 0]) ∧ RM w' (some ⟨Bo, 0, none⟩) (some ⟨Bw, 0, none⟩) (resO E) (resW E)) ∧ Below wr.heap.size wr w') := by
            have h1 := hFE0.pPair hvE (by omega) (hTH.out.next hb.out)
            rw [hlE] at h1
            refine h1.mono fun e w' hq => ⟨?_, hq.2.2⟩
            obtain ⟨Bo2, Bw2, h2, h3, h4⟩ := (hq.2.1 hn2).out
            rw [hlE] at h2
            exact ⟨Bo2, Bw2, h2, h3.recs, h4.recs⟩
          have hres2 : Hid (valR E (resO E) (resW E) = B) := by
            show _ = _
            rcases best_is (l := E) (by omega) hvE.num with h | h
            · exact absurd h.1 hn2
            · rw [← hB2, ← h.2.2.2.1]; exact h.2.2.1
          have hVl2 : Hid (∀ (W : World) (O2 V2 : Option Addr), FH W (some ⟨g, 0, none⟩) E c2 → RM W O2 V2 (resO E) (resW E) → Calls Tryd.prog 22 #[.slice (some ⟨g, 0, none⟩) l.length c2, .agg #[.slice O2 l.length l.length, .slice V2 l.length l.length]] W fun e w' => e = .returned (.tuple #[.int .i64 B, .int .i64 0]) ∧ Below W.heap.size W w') := fun W O2 V2 h1 h2 => by
            have h3 := pValue_ok (some ⟨g, 0, none⟩) O2 V2 E (resO E) (resW E) c2 l.length l.length W h1 h2 (by rw [resO_len]; omega) (by rw [resW_len]; omega) hvE (by rw [hres2.out]; omega)
            rw [resO_len, resW_len, hlE, hres2.out] at h3
            exact h3
          have hFE := Lib.hid hFE0
          clear hsw hn2 hB2 hvE hFE0 hSW hlE hres2
          have hBB : ((B : Int) == B) = true := beq_self_eq_true _
          go_wp2_with fail
          go_at_call 13
          refine hP2.out.mono ?_
          rintro e u ⟨hpr, hbn⟩
          obtain ⟨Bp, Bv, rfl, hMq⟩ := hpr
          replace hMq := Lib.hid hMq
          clear hP2
          replace hFE := Lib.hid (hFE.out.next hbn)
          replace hb := Lib.hid (hb.out.trans (hbn.mono hb.out.size))
          clear hbn
          have hbn : Below u.heap.size u (u.alloc (.cells #[.slice (some ⟨Bp, 0, none⟩) l.length l.length, .slice (some ⟨Bv, 0, none⟩) l.length l.length] 30)) := (Below.refl _ _).alloc (Nat.le_refl _) _
          have hZ := Lib.hid (RB.new u (.slice (some ⟨Bp, 0, none⟩) l.length l.length) (.slice (some ⟨Bv, 0, none⟩) l.length l.length))
          replace hFE := Lib.hid (hFE.out.next hbn)
          replace hMq := Lib.hid (hMq.out.next hbn)
          replace hb := Lib.hid (hb.out.trans (hbn.mono hb.out.size))
          clear hbn
          go_upto_region 39 with fail
          generalize u.heap.size = BhZ at hZ ⊢
          generalize u.alloc (.cells #[.slice (some ⟨Bp, 0, none⟩) l.length l.length, .slice (some ⟨Bv, 0, none⟩) l.length l.length] 30) = u1 at *
          clear u
          obtain ⟨u, hu⟩ : ∃ u, u = u1 := ⟨_, rfl⟩
          subst hu
          have z0 := hZ.out.c0
          have z1 := hZ.out.c1
          go_wp2_with fail
          go_at_call 22
          refine (hVl2.out u _ _ hFE.out hMq.out).mono ?_
          rintro e u ⟨rfl, hbn⟩
          clear hVl2
          replace hZ := Lib.hid (hZ.out.next hbn)
          replace hb := Lib.hid (hb.out.trans (hbn.mono hb.out.size))
          clear hbn
          clear z0 z1
          have z0 := hZ.out.c0
          have z1 := hZ.out.c1
          go_wp2_with fail
          go_at_call 9
          refine (hK.out _ hb.out).mono ?_
          rintro e u ⟨rfl, hbn⟩
          have hb9 := Lib.hid (hb.out.trans (hbn.mono hb.out.size))
          clear hbn
          go_wp2_with fail
          go_ret
          exact ⟨rfl, hb9.out⟩
        have hkI : (k : Int) < (l.length : Int) := by omega
        have hEl := hSW.out.len
        have hEk : Hid (E[k]? = some (en E k)) := en_get (by omega)
        have hmet := Lib.hid (hSW.out.todo k hkn (Nat.le_refl _))
        have hgB : Hid (g < wr.heap.size) := by
          obtain ⟨g', e1, _, e2⟩ := hSW.out.own.form (by omega)
          simp only [Option.some.injEq, Addr.mk.injEq, and_true] at e1
          show g < _
          rw [e1]; exact e2
        have hMr : RecAt iEnc 1 wr wr.heap.size (en E k).mA (en E k).met := fun hp => by
          obtain ⟨b9, off9, ea, hlt, _, hc9⟩ := hSW.out.rows (en E k) (List.mem_of_getElem? hEk.out) hp
          refine ⟨b9, off9, ea, hlt, fun q n hn j u hu => ?_⟩
          match j, hu with
          | 0, hu =>
            rw [show u = .int .i64 n from (Option.some.inj hu).symm, Nat.mul_one, Nat.add_zero]
            exact hc9 q n hn
          | (j + 1), hu => simp [iEnc] at hu
        have hMl : (en E k).met.length ≤ 100000 := by rw [hmet.out]; exact hFb.out.ml _ (List.mem_of_getElem? (en_get (sw_lt hXl hYl hkn)))
        have hHas : Hid (∀ (n : Int) (W : World), Below wr.heap.size wr W → Calls Tryd.prog 28 #[.slice (en E k).mA (en E k).met.length (en E k).mc, .int .i64 n] W fun e w' => e = .returned (.bool (memI (en l (sw X Y k)).met n)) ∧ W = w') := fun n W h => by
          rw [← hmet.out]
          exact lhas (en E k).mA (en E k).mc (en E k).met n W (recs_next hMr h) hMl
        have hOn : Hid (O1 iEnc 1 wr.heap.size 3 wr wr none 0 (nwM l X Y k 0)) := O1.nil (Below.refl _ _) (Nat.le_refl _)
        have hn0 : (nwM l X Y k 0).length = 0 := rfl
        clear hMr hMl hmet
        go_wp2_with fail
        obtain ⟨wo, hwo⟩ : ∃ wo, wo = wr := ⟨_, rfl⟩
        subst hwo
        go_loopw [23, 24] (fun s i wr => ∃ (m : Nat) (A3 : Option Addr) (c3 : Nat), m ≤ l.length ∧ i = .int .i64 m ∧ s = .slice A3 (nwM l X Y k m).length c3 ∧ Hid (O1 iEnc 1 wo.heap.size 3 wo wr A3 c3 (nwM l X Y k m))) (fun _ i _ => l.length - (intOf i).toNat)
        case atStart => exact ⟨0, none, 0, by omega, rfl, rfl, hOn⟩
        case round =>
          clear hOn hn0
          obtain ⟨m, A3, c3, hm, rfl, rfl, hO⟩ := hrel
          have hm0 : (0 : Int) ≤ (m : Int) := Int.natCast_nonneg _
          have hSWr := Lib.hid (hSW.out.next hO.out.below)
          have e7 := (e8_row hSWr.out.own hEk.out).e7
          have f7 := World.ownsRow.frozenAt hSWr.out.own.own (k * 8 + 7)
          have hlb := nwM_le l X Y k m
          by_cases hmn : m < l.length
          rotate_left
          · obtain rfl : m = l.length := by omega
            have hnew := Lib.hid (hSWr.out.step hkn hgB.out hO.out)
            clear hHas hSW hO hSWr
            go_wp2_with fail
            go_roundw
            case rel => exact ⟨k + 1, _, by omega, by go_num, hnew⟩
            case measure => simp [intOf]; omega
          have hmI : (m : Int) < (l.length : Int) := by omega
          clear f7 hSWr
          by_cases t1 : m = X
          · have q1 : ((m : Int) == (X : Int)) = true := by rw [beq_iff_eq]; omega
            have hF : Hid ((sw X Y m : Int) = (Y : Int)) := by show _ = _; unfold sw; rw [if_pos t1]
            clear t1
            have hh : Hid (∀ W, Below wo.heap.size wo W → Calls Tryd.prog 28 #[.slice (en E k).mA (en E k).met.length (en E k).mc, .int .i64 (Y : Int)] W fun e w' => e = .returned (.bool (memI (en l (sw X Y k)).met (Y : Int))) ∧ W = w') := fun W h => hHas.out _ W h
            cases hbm : memI (en l (sw X Y k)).met (Y : Int) with
            | true =>
              rw [hbm] at hh
              have hsu := Lib.hid (nwM_yes (l := l) (x := X) (y := Y) (i := k) (m := m) (by rw [hF.out]; exact hbm))
              have hsl : (nwM l X Y k m).length + 1 = (nwM l X Y k (m + 1)).length := by rw [← hsu.out, List.length_append]; rfl
              clear hbm
              generalize hel : nwM l X Y k m = L at *
              go_wp2_with fail
              go_at_call 28
              refine (hh.out _ hO.out.below).mono ?_
              rintro e u ⟨rfl, rfl⟩
              go_wp2_with (at_builtin; refine wpList_append_recs intRow iEnc_len iEnc_one rfl _ _ rfl wo.heap.size A3 c3 L rfl (hO.out.alloc _).own _ 1 [(m : Int)] rfl (recs_one (fun _ => rfl) _ _ _) (by simp; omega) (hO.out.alloc _).size ?_; intro A' c' w' hown hg _; rw [hsu.out] at hown ⊢; have hO' := Lib.hid ((hO.out.alloc _).app hown hg); clear hown hg)
              go_roundw
              case rel => exact ⟨m + 1, A', c', by omega, by go_num, rfl, hO'⟩
              case measure => simp [intOf]; omega
            | false =>
              rw [hbm] at hh
              have hsu := nwM_no (l := l) (x := X) (y := Y) (i := k) (m := m) (by rw [hF.out]; exact hbm)
              rw [hsu] at hO ⊢
              clear hbm hsu
              go_wp2_with fail
              go_at_call 28
              refine (hh.out _ hO.out.below).mono ?_
              rintro e u ⟨rfl, rfl⟩
              go_wp2_with fail
              go_roundw
              case rel => exact ⟨m + 1, A3, c3, by omega, by go_num, rfl, hO⟩
              case measure => simp [intOf]; omega
          have q1 : ((m : Int) == (X : Int)) = false := by rw [beq_eq_false_iff_ne]; omega
          by_cases t2 : m = Y
          · have q2 : ((m : Int) == (Y : Int)) = true := by rw [beq_iff_eq]; omega
            have hF : Hid ((sw X Y m : Int) = (X : Int)) := by show _ = _; unfold sw; rw [if_neg t1, if_pos t2]
            clear t1 t2
            have hh : Hid (∀ W, Below wo.heap.size wo W → Calls Tryd.prog 28 #[.slice (en E k).mA (en E k).met.length (en E k).mc, .int .i64 (X : Int)] W fun e w' => e = .returned (.bool (memI (en l (sw X Y k)).met (X : Int))) ∧ W = w') := fun W h => hHas.out _ W h
            cases hbm : memI (en l (sw X Y k)).met (X : Int) with
            | true =>
              rw [hbm] at hh
              have hsu := Lib.hid (nwM_yes (l := l) (x := X) (y := Y) (i := k) (m := m) (by rw [hF.out]; exact hbm))
              have hsl : (nwM l X Y k m).length + 1 = (nwM l X Y k (m + 1)).length := by rw [← hsu.out, List.length_append]; rfl
              clear hbm
              generalize hel : nwM l X Y k m = L at *
              go_wp2_with fail
              go_at_call 28
              refine (hh.out _ hO.out.below).mono ?_
              rintro e u ⟨rfl, rfl⟩
              go_wp2_with (at_builtin; refine wpList_append_recs intRow iEnc_len iEnc_one rfl _ _ rfl wo.heap.size A3 c3 L rfl (hO.out.alloc _).own _ 1 [(m : Int)] rfl (recs_one (fun _ => rfl) _ _ _) (by simp; omega) (hO.out.alloc _).size ?_; intro A' c' w' hown hg _; rw [hsu.out] at hown ⊢; have hO' := Lib.hid ((hO.out.alloc _).app hown hg); clear hown hg)
              go_roundw
              case rel => exact ⟨m + 1, A', c', by omega, by go_num, rfl, hO'⟩
              case measure => simp [intOf]; omega
            | false =>
              rw [hbm] at hh
              have hsu := nwM_no (l := l) (x := X) (y := Y) (i := k) (m := m) (by rw [hF.out]; exact hbm)
              rw [hsu] at hO ⊢
              clear hbm hsu
              go_wp2_with fail
              go_at_call 28
              refine (hh.out _ hO.out.below).mono ?_
              rintro e u ⟨rfl, rfl⟩
              go_wp2_with fail
              go_roundw
              case rel => exact ⟨m + 1, A3, c3, by omega, by go_num, rfl, hO⟩
              case measure => simp [intOf]; omega
          · have q2 : ((m : Int) == (Y : Int)) = false := by rw [beq_eq_false_iff_ne]; omega
            have hF : Hid ((sw X Y m : Int) = (m : Int)) := by show _ = _; unfold sw; rw [if_neg t1, if_neg t2]
            clear t1 t2
            have hh : Hid (∀ W, Below wo.heap.size wo W → Calls Tryd.prog 28 #[.slice (en E k).mA (en E k).met.length (en E k).mc, .int .i64 (m : Int)] W fun e w' => e = .returned (.bool (memI (en l (sw X Y k)).met (m : Int))) ∧ W = w') := fun W h => hHas.out _ W h
            cases hbm : memI (en l (sw X Y k)).met (m : Int) with
            | true =>
              rw [hbm] at hh
              have hsu := Lib.hid (nwM_yes (l := l) (x := X) (y := Y) (i := k) (m := m) (by rw [hF.out]; exact hbm))
              have hsl : (nwM l X Y k m).length + 1 = (nwM l X Y k (m + 1)).length := by rw [← hsu.out, List.length_append]; rfl
              clear hbm
              generalize hel : nwM l X Y k m = L at *
              go_wp2_with fail
              go_at_call 28
              refine (hh.out _ hO.out.below).mono ?_
              rintro e u ⟨rfl, rfl⟩
              go_wp2_with (at_builtin; refine wpList_append_recs intRow iEnc_len iEnc_one rfl _ _ rfl wo.heap.size A3 c3 L rfl (hO.out.alloc _).own _ 1 [(m : Int)] rfl (recs_one (fun _ => rfl) _ _ _) (by simp; omega) (hO.out.alloc _).size ?_; intro A' c' w' hown hg _; rw [hsu.out] at hown ⊢; have hO' := Lib.hid ((hO.out.alloc _).app hown hg); clear hown hg)
              go_roundw
              case rel => exact ⟨m + 1, A', c', by omega, by go_num, rfl, hO'⟩
              case measure => simp [intOf]; omega
            | false =>
              rw [hbm] at hh
              have hsu := nwM_no (l := l) (x := X) (y := Y) (i := k) (m := m) (by rw [hF.out]; exact hbm)
              rw [hsu] at hO ⊢
              clear hbm hsu
              go_wp2_with fail
              go_at_call 28
              refine (hh.out _ hO.out.below).mono ?_
              rintro e u ⟨rfl, rfl⟩
              go_wp2_with fail
              go_roundw
              case rel => exact ⟨m + 1, A3, c3, by omega, by go_num, rfl, hO⟩
              case measure => simp [intOf]; omega
set_option maxRecDepth 100000 in
theorem law_pholds (A : Option Addr) (l : List Ent) (c : Nat) (O : Option Addr) (o : List Int) (co : Nat) (V : Option Addr) (v : List Bool) (cv : Nat) (a b : Nat) (w : World) (hG : FI w A l c) (hM : RM w O V o v) (ha : a ≤ 255) (hbb : b ≤ 255) (hT : TabOK w)  : Calls Tryd.prog 8 #[.slice A l.length c, .agg #[.slice O o.length co, .slice V v.length cv], .int .u8 (a : Int), .int .u8 (b : Int)] w fun e w' => e = .returned (.bool true) ∧ Below w.heap.size w w' := by
  by_cases hf : fewP l
  rotate_left
  · exact ph_few A l c O o co V v cv a b w hG hM ha hbb hT hf
  by_cases h8 : 8 < o.length
  · exact ph_o A l c O o co V v cv a b w hG hM ha hbb hT hf h8
  by_cases h9 : 8 < v.length
  · exact ph_v A l c O o co V v cv a b w hG hM ha hbb hT hf h8 h9
  by_cases hv : okF l
  rotate_left
  · exact ph_inv A l c O o co V v cv a b w hG hM ha hbb hT hf h8 h9 hv
  by_cases hn : bst l (fullS l) = -1
  · exact ph_no A l c O o co V v cv a b w hG hM ha hbb hT hf h8 h9 hv hn
  · exact ph_yes A l c O o co V v cv a b w hG hM ha hbb hT hf h8 h9 hv hn
theorem law_pholds_i (A : Option Addr) (l : List Ent) (c : Nat) (O : Option Addr) (o : List Int) (co : Nat) (V : Option Addr) (v : List Bool) (cv : Nat) (a b : Int) (w : World) (hG : FI w A l c) (hM : RM w O V o v) (ha : 0 ≤ a ∧ a ≤ 255) (hb : 0 ≤ b ∧ b ≤ 255) (hT : TabOK w) : Calls Tryd.prog 8 #[.slice A l.length c, .agg #[.slice O o.length co, .slice V v.length cv], .int .u8 a, .int .u8 b] w fun e w' => e = .returned (.bool true) ∧ Below w.heap.size w w' := by
  obtain ⟨n, rfl⟩ := Int.eq_ofNat_of_zero_le ha.1
  obtain ⟨m, rfl⟩ := Int.eq_ofNat_of_zero_le hb.1
  exact law_pholds A l c O o co V v cv n m w hG hM (by omega) (by omega) hT
end Go.Proofs.YtjjjdoealagpcaaDoor
