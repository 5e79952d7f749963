/- Layer 43: the law of values. -/
import Derived.Test.YtjjjdoealagpcaaDoorHe
namespace Go.Proofs.YtjjjdoealagpcaaDoor
open Go Go.RowKit
set_option linter.unusedSimpArgs false
set_option linter.unusedVariables false
attribute [local go_sem ↓] Go.wp_at_zero Go.wp_at_succ
theorem rWL_len (l : List Ent) (o : List Int) : (rWL l o).length = l.length := by simp [rWL]
theorem BRow.recs {w : World} {B : Nat} {T : TypeId} {L : List Bool} (h : BRow w B T L) : RecAt tEnc 1 w w.heap.size (some ⟨B, 0, none⟩) L := fun _ => by
  refine ⟨B, 0, rfl, h.lt, fun k x hx j u hu => ?_⟩
  match j, hu with
  | 0, hu =>
    rw [show u = .bool x from (Option.some.inj hu).symm, Nat.mul_one, Nat.zero_add, Nat.add_zero]
    exact h.cell hx
  | (j + 1), hu => simp [tEnc] at hu
def oUp (n : Nat) (o : List Int) (K : Nat) : Prop := ∀ (i : Nat) (x : Int), i < K → o[i]? = some x → -1 ≤ x ∧ x < n ∧ x ≠ i
theorem FI.next {w w' : World} {A : Option Addr} {l : List Ent} {c : Nat} (h : FI w A l c) (hb : Below w.heap.size w w') : FI w' A l c := ⟨h.fld.next hb, h.cap, h.len, h.nm⟩
set_option maxRecDepth 100000 in
set_option maxHeartbeats 8000000 in
theorem pv_few (A : Option Addr) (l : List Ent) (c : Nat) (O : Option Addr) (o : List Int) (co : Nat) (V : Option Addr) (v : List Bool) (cv : Nat) (w : World) (hG : FI w A l c) (hM : RM w O V o v) (hol : o.length ≤ maxLen) (hvl : v.length ≤ maxLen) (hT : TabOK w) (hf : ¬ fewP l) : Calls Tryd.prog 6 #[.slice A l.length c, .agg #[.slice O o.length co, .slice V v.length cv]] w fun e w' => e = .returned (.bool true) ∧ Below w.heap.size w w' := by
  have hfe : Hid (∀ W, Below w.heap.size w W → Calls Tryd.prog 12 #[.slice A l.length c] W fun e w' => e = .returned (.bool (fewB l)) ∧ W = w') := fun W h => lfew A l c W (hG.next h)
  have hK : Hid (∀ W, Below w.heap.size w W → Calls Tryd.prog 9 #[] W fun e w' => e = .returned (.bool true) ∧ Below W.heap.size W w') := fun W h => known_43 W (hT.next h)
  have hBX := Lib.hid (RB.new w (.slice O o.length co) (.slice V v.length cv))
  have hb1 : Hid (Below w.heap.size w (w.alloc (.cells #[.slice O o.length co, .slice V v.length cv] 30))) := (Below.refl _ _).alloc (Nat.le_refl _) _
  rw [fewB_no hf] at hfe
  clear hG hM hT hf
  go_enter Tryd.func6, Tryd.ntmps6
  go_upto_region 1 with fail
  generalize w.heap.size = B0 at hBX ⊢
  generalize w.alloc (.cells #[.slice O o.length co, .slice V v.length cv] 30) = w1 at *
  have hb : Hid (Below w1.heap.size w1 w1) := Below.refl _ _
  have c0 := hBX.out.c0
  have c1 := hBX.out.c1
  go_wp2_with fail
  go_at_call 12
  refine (hfe.out _ hb1.out).mono ?_
  rintro e u ⟨rfl, rfl⟩
  go_wp2_with fail
  go_at_call 9
  refine (hK.out _ (hb1.out.trans (hb.out.mono hb1.out.size))).mono ?_
  rintro e u ⟨rfl, hbn⟩
  replace hb := Lib.hid (hb.out.trans (hbn.mono hb.out.size))
  clear hbn
  clear c0 c1
  have c0 := (hBX.out.next hb.out).c0
  have c1 := (hBX.out.next hb.out).c1
  go_wp2_with fail
  go_ret
  exact ⟨rfl, hb1.out.trans (hb.out.mono hb1.out.size)⟩
set_option maxRecDepth 100000 in
set_option maxHeartbeats 8000000 in
theorem pv_o (A : Option Addr) (l : List Ent) (c : Nat) (O : Option Addr) (o : List Int) (co : Nat) (V : Option Addr) (v : List Bool) (cv : Nat) (w : World) (hG : FI w A l c) (hM : RM w O V o v) (hol : o.length ≤ maxLen) (hvl : v.length ≤ maxLen) (hT : TabOK w) (hf : fewP l) (h8 : 8 < o.length) : Calls Tryd.prog 6 #[.slice A l.length c, .agg #[.slice O o.length co, .slice V v.length cv]] w fun e w' => e = .returned (.bool true) ∧ Below w.heap.size w w' := by
  have hfe : Hid (∀ W, Below w.heap.size w W → Calls Tryd.prog 12 #[.slice A l.length c] W fun e w' => e = .returned (.bool (fewB l)) ∧ W = w') := fun W h => lfew A l c W (hG.next h)
  have hK : Hid (∀ W, Below w.heap.size w W → Calls Tryd.prog 9 #[] W fun e w' => e = .returned (.bool true) ∧ Below W.heap.size W w') := fun W h => known_43 W (hT.next h)
  have hBX := Lib.hid (RB.new w (.slice O o.length co) (.slice V v.length cv))
  have hb1 : Hid (Below w.heap.size w (w.alloc (.cells #[.slice O o.length co, .slice V v.length cv] 30))) := (Below.refl _ _).alloc (Nat.le_refl _) _
  rw [fewB_yes hf] at hfe
  have q1 : (8 : Int) < (o.length : Int) := by omega
  clear hG hM hT hf
  go_enter Tryd.func6, Tryd.ntmps6
  go_upto_region 1 with fail
  generalize w.heap.size = B0 at hBX ⊢
  generalize w.alloc (.cells #[.slice O o.length co, .slice V v.length cv] 30) = w1 at *
  have hb : Hid (Below w1.heap.size w1 w1) := Below.refl _ _
  have c0 := hBX.out.c0
  have c1 := hBX.out.c1
  go_wp2_with fail
  go_at_call 12
  refine (hfe.out _ hb1.out).mono ?_
  rintro e u ⟨rfl, rfl⟩
  go_wp2_with fail
  go_at_call 9
  refine (hK.out _ (hb1.out.trans (hb.out.mono hb1.out.size))).mono ?_
  rintro e u ⟨rfl, hbn⟩
  replace hb := Lib.hid (hb.out.trans (hbn.mono hb.out.size))
  clear hbn
  clear c0 c1
  have c0 := (hBX.out.next hb.out).c0
  have c1 := (hBX.out.next hb.out).c1
  go_wp2_with fail
  go_ret
  exact ⟨rfl, hb1.out.trans (hb.out.mono hb1.out.size)⟩
set_option maxRecDepth 100000 in
set_option maxHeartbeats 8000000 in
theorem pv_v (A : Option Addr) (l : List Ent) (c : Nat) (O : Option Addr) (o : List Int) (co : Nat) (V : Option Addr) (v : List Bool) (cv : Nat) (w : World) (hG : FI w A l c) (hM : RM w O V o v) (hol : o.length ≤ maxLen) (hvl : v.length ≤ maxLen) (hT : TabOK w) (hf : fewP l) (h8 : ¬ 8 < o.length) (h9 : 8 < v.length) : Calls Tryd.prog 6 #[.slice A l.length c, .agg #[.slice O o.length co, .slice V v.length cv]] w fun e w' => e = .returned (.bool true) ∧ Below w.heap.size w w' := by
  have hfe : Hid (∀ W, Below w.heap.size w W → Calls Tryd.prog 12 #[.slice A l.length c] W fun e w' => e = .returned (.bool (fewB l)) ∧ W = w') := fun W h => lfew A l c W (hG.next h)
  have hK : Hid (∀ W, Below w.heap.size w W → Calls Tryd.prog 9 #[] W fun e w' => e = .returned (.bool true) ∧ Below W.heap.size W w') := fun W h => known_43 W (hT.next h)
  have hBX := Lib.hid (RB.new w (.slice O o.length co) (.slice V v.length cv))
  have hb1 : Hid (Below w.heap.size w (w.alloc (.cells #[.slice O o.length co, .slice V v.length cv] 30))) := (Below.refl _ _).alloc (Nat.le_refl _) _
  rw [fewB_yes hf] at hfe
  have q1 : ¬ (8 : Int) < (o.length : Int) := by omega
  have q2 : (8 : Int) < (v.length : Int) := by omega
  clear hG hM hT hf
  go_enter Tryd.func6, Tryd.ntmps6
  go_upto_region 1 with fail
  generalize w.heap.size = B0 at hBX ⊢
  generalize w.alloc (.cells #[.slice O o.length co, .slice V v.length cv] 30) = w1 at *
  have hb : Hid (Below w1.heap.size w1 w1) := Below.refl _ _
  have c0 := hBX.out.c0
  have c1 := hBX.out.c1
  go_wp2_with fail
  go_at_call 12
  refine (hfe.out _ hb1.out).mono ?_
  rintro e u ⟨rfl, rfl⟩
  go_wp2_with fail
  go_at_call 9
  refine (hK.out _ (hb1.out.trans (hb.out.mono hb1.out.size))).mono ?_
  rintro e u ⟨rfl, hbn⟩
  replace hb := Lib.hid (hb.out.trans (hbn.mono hb.out.size))
  clear hbn
  clear c0 c1
  have c0 := (hBX.out.next hb.out).c0
  have c1 := (hBX.out.next hb.out).c1
  go_wp2_with fail
  go_ret
  exact ⟨rfl, hb1.out.trans (hb.out.mono hb1.out.size)⟩
set_option maxRecDepth 100000 in
set_option maxHeartbeats 8000000 in
theorem pv_inv (A : Option Addr) (l : List Ent) (c : Nat) (O : Option Addr) (o : List Int) (co : Nat) (V : Option Addr) (v : List Bool) (cv : Nat) (w : World) (hG : FI w A l c) (hM : RM w O V o v) (hol : o.length ≤ maxLen) (hvl : v.length ≤ maxLen) (hT : TabOK w) (hf : fewP l) (h8 : ¬ 8 < o.length) (h9 : ¬ 8 < v.length) (hv : ¬ okF l) : Calls Tryd.prog 6 #[.slice A l.length c, .agg #[.slice O o.length co, .slice V v.length cv]] w fun e w' => e = .returned (.bool true) ∧ Below w.heap.size w w' := by
  have hfe : Hid (∀ W, Below w.heap.size w W → Calls Tryd.prog 12 #[.slice A l.length c] W fun e w' => e = .returned (.bool (fewB l)) ∧ W = w') := fun W h => lfew A l c W (hG.next h)
  have hK : Hid (∀ W, Below w.heap.size w W → Calls Tryd.prog 9 #[] W fun e w' => e = .returned (.bool true) ∧ Below W.heap.size W w') := fun W h => known_43 W (hT.next h)
  have hBX := Lib.hid (RB.new w (.slice O o.length co) (.slice V v.length cv))
  have hb1 : Hid (Below w.heap.size w (w.alloc (.cells #[.slice O o.length co, .slice V v.length cv] 30))) := (Below.refl _ _).alloc (Nat.le_refl _) _
  have q1 : ¬ (8 : Int) < (o.length : Int) := by omega
  have q2 : ¬ (8 : Int) < (v.length : Int) := by omega
  rw [fewB_yes hf] at hfe
  have hF := hG.few hf
  have hVd : Hid (∀ W, Below w.heap.size w W → Calls Tryd.prog 11 #[.slice A l.length c] W fun e w' => e = .returned (.bool false) ∧ Below W.heap.size W w') := fun W h => fB_false hv ▸ (hF.next h).lvalid
  have hA : Hid (∀ W, Below w.heap.size w W → Calls Tryd.prog 21 #[.slice A l.length c, .agg #[.slice O o.length co, .slice V v.length cv]] W fun e w' => e = .returned (.tuple #[.bool false, .int .i64 2]) ∧ Below W.heap.size W w') := fun W h => pAllowed_bad A O V l o v c co cv W (hF.next h) (hM.next h) (by omega) (by omega) hv
  have hU : Hid (∀ W, Below w.heap.size w W → Calls Tryd.prog 22 #[.slice A l.length c, .agg #[.slice O o.length co, .slice V v.length cv]] W fun e w' => e = .returned (.tuple #[.int .i64 0, .int .i64 2]) ∧ Below W.heap.size W w') := fun W h => pValue_bad A O V l o v c co cv W (hF.next h) (hM.next h) (by omega) (by omega) hv
  clear hG hM hT hf hF hv
  go_enter Tryd.func6, Tryd.ntmps6
  go_upto_region 1 with fail
  generalize w.heap.size = B0 at hBX ⊢
  generalize w.alloc (.cells #[.slice O o.length co, .slice V v.length cv] 30) = w1 at *
  have hb : Hid (Below w1.heap.size w1 w1) := Below.refl _ _
  have c0 := hBX.out.c0
  have c1 := hBX.out.c1
  go_wp2_with fail
  go_at_call 12
  refine (hfe.out _ hb1.out).mono ?_
  rintro e u ⟨rfl, rfl⟩
  go_wp2_with fail
  go_at_call 21
  refine (hA.out _ (hb1.out.trans (hb.out.mono hb1.out.size))).mono ?_
  rintro e u ⟨rfl, hbn⟩
  replace hb := Lib.hid (hb.out.trans (hbn.mono hb.out.size))
  clear hbn
  clear c0 c1
  have c0 := (hBX.out.next hb.out).c0
  have c1 := (hBX.out.next hb.out).c1
  go_wp2_with fail
  go_at_call 22
  refine (hU.out _ (hb1.out.trans (hb.out.mono hb1.out.size))).mono ?_
  rintro e u ⟨rfl, hbn⟩
  replace hb := Lib.hid (hb.out.trans (hbn.mono hb.out.size))
  clear hbn
  clear c0 c1
  have c0 := (hBX.out.next hb.out).c0
  have c1 := (hBX.out.next hb.out).c1
  go_wp2_with fail
  go_at_call 11
  refine (hVd.out _ (hb1.out.trans (hb.out.mono hb1.out.size))).mono ?_
  rintro e u ⟨rfl, hbn⟩
  replace hb := Lib.hid (hb.out.trans (hbn.mono hb.out.size))
  clear hbn
  clear c0 c1
  have c0 := (hBX.out.next hb.out).c0
  have c1 := (hBX.out.next hb.out).c1
  go_wp2_with fail
  go_at_call 9
  refine (hK.out _ (hb1.out.trans (hb.out.mono hb1.out.size))).mono ?_
  rintro e u ⟨rfl, hbn⟩
  replace hb := Lib.hid (hb.out.trans (hbn.mono hb.out.size))
  clear hbn
  clear c0 c1
  have c0 := (hBX.out.next hb.out).c0
  have c1 := (hBX.out.next hb.out).c1
  go_wp2_with fail
  go_ret
  exact ⟨rfl, hb1.out.trans (hb.out.mono hb1.out.size)⟩
set_option maxRecDepth 100000 in
set_option maxHeartbeats 8000000 in
theorem pv_no (A : Option Addr) (l : List Ent) (c : Nat) (O : Option Addr) (o : List Int) (co : Nat) (V : Option Addr) (v : List Bool) (cv : Nat) (w : World) (hG : FI w A l c) (hM : RM w O V o v) (hol : o.length ≤ maxLen) (hvl : v.length ≤ maxLen) (hT : TabOK w) (hf : fewP l) (h8 : ¬ 8 < o.length) (h9 : ¬ 8 < v.length) (hv : okF l) (hn : valR l o v = -1) : Calls Tryd.prog 6 #[.slice A l.length c, .agg #[.slice O o.length co, .slice V v.length cv]] w fun e w' => e = .returned (.bool true) ∧ Below w.heap.size w w' := by
  have hfe : Hid (∀ W, Below w.heap.size w W → Calls Tryd.prog 12 #[.slice A l.length c] W fun e w' => e = .returned (.bool (fewB l)) ∧ W = w') := fun W h => lfew A l c W (hG.next h)
  have hK : Hid (∀ W, Below w.heap.size w W → Calls Tryd.prog 9 #[] W fun e w' => e = .returned (.bool true) ∧ Below W.heap.size W w') := fun W h => known_43 W (hT.next h)
  have hBX := Lib.hid (RB.new w (.slice O o.length co) (.slice V v.length cv))
  have hb1 : Hid (Below w.heap.size w (w.alloc (.cells #[.slice O o.length co, .slice V v.length cv] 30))) := (Below.refl _ _).alloc (Nat.le_refl _) _
  have q1 : ¬ (8 : Int) < (o.length : Int) := by omega
  have q2 : ¬ (8 : Int) < (v.length : Int) := by omega
  rw [fewB_yes hf] at hfe
  have hF := hG.few hf
  have hVd : Hid (∀ W, Below w.heap.size w W → Calls Tryd.prog 11 #[.slice A l.length c] W fun e w' => e = .returned (.bool true) ∧ Below W.heap.size W w') := fun W h => fB_true hv ▸ (hF.next h).lvalid
  have hA : Hid (∀ W, Below w.heap.size w W → Calls Tryd.prog 21 #[.slice A l.length c, .agg #[.slice O o.length co, .slice V v.length cv]] W fun e w' => e = .returned (.tuple #[.bool false, .int .i64 0]) ∧ Below W.heap.size W w') := fun W h => pAllowed_no A O V l o v c co cv W (hF.next h) (hM.next h) (by omega) (by omega) hv hn
  have hU : Hid (∀ W, Below w.heap.size w W → Calls Tryd.prog 22 #[.slice A l.length c, .agg #[.slice O o.length co, .slice V v.length cv]] W fun e w' => e = .returned (.tuple #[.int .i64 0, .int .i64 2]) ∧ Below W.heap.size W w') := fun W h => pValue_no A O V l o v c co cv W (hF.next h) (hM.next h) (by omega) (by omega) hv hn
  have hL : Hid (∀ W, Below w.heap.size w W → Calls Tryd.prog 23 #[.slice A l.length c, .agg #[.slice O o.length co, .slice V v.length cv]] W fun e w' => e = .returned (.int .i64 (-1)) ∧ Below W.heap.size W w') := fun W h => hn ▸ lvalue A O V l o v c co cv W (hF.next h) hv (hM.next h) (by omega) (by omega)
  have hFH := Lib.hid hF
  have hMH := Lib.hid hM
  have hvH := Lib.hid hv
  clear hG hM hT hf hF hv hn
  go_enter Tryd.func6, Tryd.ntmps6
  go_upto_region 1 with fail
  generalize w.heap.size = B0 at hBX ⊢
  generalize w.alloc (.cells #[.slice O o.length co, .slice V v.length cv] 30) = w1 at *
  have hb : Hid (Below w1.heap.size w1 w1) := Below.refl _ _
  have c0 := hBX.out.c0
  have c1 := hBX.out.c1
  go_wp2_with fail
  go_at_call 12
  refine (hfe.out _ hb1.out).mono ?_
  rintro e u ⟨rfl, rfl⟩
  go_wp2_with fail
  go_at_call 21
  refine (hA.out _ (hb1.out.trans (hb.out.mono hb1.out.size))).mono ?_
  rintro e u ⟨rfl, hbn⟩
  replace hb := Lib.hid (hb.out.trans (hbn.mono hb.out.size))
  clear hbn
  clear c0 c1
  have c0 := (hBX.out.next hb.out).c0
  have c1 := (hBX.out.next hb.out).c1
  go_wp2_with fail
  go_at_call 22
  refine (hU.out _ (hb1.out.trans (hb.out.mono hb1.out.size))).mono ?_
  rintro e u ⟨rfl, hbn⟩
  replace hb := Lib.hid (hb.out.trans (hbn.mono hb.out.size))
  clear hbn
  clear c0 c1
  have c0 := (hBX.out.next hb.out).c0
  have c1 := (hBX.out.next hb.out).c1
  go_wp2_with fail
  go_at_call 11
  refine (hVd.out _ (hb1.out.trans (hb.out.mono hb1.out.size))).mono ?_
  rintro e u ⟨rfl, hbn⟩
  replace hb := Lib.hid (hb.out.trans (hbn.mono hb.out.size))
  clear hbn
  clear c0 c1
  have c0 := (hBX.out.next hb.out).c0
  have c1 := (hBX.out.next hb.out).c1
  go_wp2_with fail
  go_at_call 23
  refine (hL.out _ (hb1.out.trans (hb.out.mono hb1.out.size))).mono ?_
  rintro e u ⟨rfl, hbn⟩
  replace hb := Lib.hid (hb.out.trans (hbn.mono hb.out.size))
  clear hbn
  clear c0 c1
  have c0 := (hBX.out.next hb.out).c0
  have c1 := (hBX.out.next hb.out).c1
  have hbW : Hid (Below w.heap.size w u) := hb1.out.trans (hb.out.mono hb1.out.size)
  clear hA hU hVd hL hfe
  go_wp2_with fail
  go_loop [10] (fun i => ∃ k : Nat, k ≤ o.length ∧ i = .int .i64 k ∧ Hid (oUp l.length o k) ∧ (0 < k → o.length = l.length)) (fun i => o.length - (intOf i).toNat)
  case atStart => exact ⟨0, by omega, rfl, fun i x hi => absurd hi (Nat.not_lt_zero _), fun h => absurd h (Nat.lt_irrefl _)⟩
  case round =>
    obtain ⟨k, hk, rfl, hup, hlen⟩ := hrel
    have hk0 : (0 : Int) ≤ (k : Int) := Int.natCast_nonneg _
    by_cases hkn : k < o.length
    · obtain ⟨x, hx⟩ : ∃ x, o[k]? = some x := ⟨_, List.getElem?_eq_getElem hkn⟩
      obtain ⟨bo, oo, hAo, hlo, e0⟩ := rec1 (hMH.out.next hbW.out).ro hx
      rw [hAo] at c0
      have hkI : (k : Int) < (o.length : Int) := by omega
      replace hx := Lib.hid hx
      replace hAo := Lib.hid hAo
      clear hlo
      by_cases n0 : x < -1
      · skip
        go_wp2_with fail
        go_at_call 9
        refine (hK.out _ (hb1.out.trans (hb.out.mono hb1.out.size))).mono ?_
        rintro e u ⟨rfl, hbn⟩
        replace hb := Lib.hid (hb.out.trans (hbn.mono hb.out.size))
        clear hbn
        clear c0 c1
        have c0 := (hBX.out.next hb.out).c0
        have c1 := (hBX.out.next hb.out).c1
        go_wp2_with fail
        go_ret
        exact ⟨rfl, hb1.out.trans (hb.out.mono hb1.out.size)⟩
      by_cases n1 : (l.length : Int) ≤ x
      · skip
        go_wp2_with fail
        go_at_call 9
        refine (hK.out _ (hb1.out.trans (hb.out.mono hb1.out.size))).mono ?_
        rintro e u ⟨rfl, hbn⟩
        replace hb := Lib.hid (hb.out.trans (hbn.mono hb.out.size))
        clear hbn
        clear c0 c1
        have c0 := (hBX.out.next hb.out).c0
        have c1 := (hBX.out.next hb.out).c1
        go_wp2_with fail
        go_ret
        exact ⟨rfl, hb1.out.trans (hb.out.mono hb1.out.size)⟩
      by_cases n2 : o.length = l.length
      rotate_left
      · have q3 : ((o.length : Int) != (l.length : Int)) = true := by rw [bne_iff_ne]; omega
        clear n2
        go_wp2_with fail
        go_at_call 9
        refine (hK.out _ (hb1.out.trans (hb.out.mono hb1.out.size))).mono ?_
        rintro e u ⟨rfl, hbn⟩
        replace hb := Lib.hid (hb.out.trans (hbn.mono hb.out.size))
        clear hbn
        clear c0 c1
        have c0 := (hBX.out.next hb.out).c0
        have c1 := (hBX.out.next hb.out).c1
        go_wp2_with fail
        go_ret
        exact ⟨rfl, hb1.out.trans (hb.out.mono hb1.out.size)⟩
      have q3 : ((o.length : Int) != (l.length : Int)) = false := by rw [bne_eq_false_iff_eq]; omega
      have n2H := Lib.hid n2
      clear n2 hlen
      by_cases n3 : x = (k : Int)
      · have q4 : (x == (k : Int)) = true := by rw [beq_iff_eq]; exact n3
        clear n3
        go_wp2_with fail
        go_at_call 9
        refine (hK.out _ (hb1.out.trans (hb.out.mono hb1.out.size))).mono ?_
        rintro e u ⟨rfl, hbn⟩
        replace hb := Lib.hid (hb.out.trans (hbn.mono hb.out.size))
        clear hbn
        clear c0 c1
        have c0 := (hBX.out.next hb.out).c0
        have c1 := (hBX.out.next hb.out).c1
        go_wp2_with fail
        go_ret
        exact ⟨rfl, hb1.out.trans (hb.out.mono hb1.out.size)⟩
      have q4 : (x == (k : Int)) = false := by rw [beq_eq_false_iff_ne]; exact n3
      have hnew : Hid (oUp l.length o (k + 1)) := fun i z hi hz => by
        by_cases e : i = k
        · subst e
          obtain rfl := Option.some.inj (hx.out.symm.trans hz)
          exact ⟨by omega, by omega, n3⟩
        · exact hup.out i z (by omega) hz
      clear n3
      go_wp2_with fail
      go_round
      case rel => exact ⟨k + 1, by omega, by go_num, hnew, fun _ => n2H.out⟩
      case measure => simp [intOf]; omega
    obtain rfl : k = o.length := by omega
    by_cases n2 : o.length = l.length
    rotate_left
    · have q3 : ((o.length : Int) != (l.length : Int)) = true := by rw [bne_iff_ne]; omega
      clear n2 hlen
      go_wp2_with fail
      go_at_call 9
      refine (hK.out _ (hb1.out.trans (hb.out.mono hb1.out.size))).mono ?_
      rintro e u ⟨rfl, hbn⟩
      replace hb := Lib.hid (hb.out.trans (hbn.mono hb.out.size))
      clear hbn
      clear c0 c1
      have c0 := (hBX.out.next hb.out).c0
      have c1 := (hBX.out.next hb.out).c1
      go_wp2_with fail
      go_ret
      exact ⟨rfl, hb1.out.trans (hb.out.mono hb1.out.size)⟩
    have q3 : ((o.length : Int) != (l.length : Int)) = false := by rw [bne_eq_false_iff_eq]; omega
    have hoO : oOk l.length o := ⟨n2, fun i x hx => hup.out i x (List.getElem?_eq_some_iff.1 hx).1 hx⟩
    have hRd : Hid (∀ W, Below w.heap.size w W → Calls Tryd.prog 24 #[.slice A l.length c, .slice O o.length co] W fun e w' => RdR l o O co e W w') := fun W h => lround A O l o c co W (hFH.out.next h) hvH.out (hMH.out.next h).ro hoO
    have n2H := Lib.hid n2
    clear hoO hlen n2
    go_wp2_with fail
    go_at_call 24
    refine (hRd.out _ hbW.out).mono ?_
    rintro e u2 hrd
    obtain ⟨⟨Bw, rfl, hBw⟩, hbn⟩ := hrd
    have hBX2 := Lib.hid (RB.new u2 (.slice O l.length co) (.slice (some ⟨Bw, 0, none⟩) l.length l.length))
    have hb2 : Hid (Below w.heap.size w u2) := hbW.out.trans (hbn.mono hbW.out.size)
    have hb3 : Hid (Below w.heap.size w (u2.alloc (.cells #[.slice O l.length co, .slice (some ⟨Bw, 0, none⟩) l.length l.length] 30))) := hb2.out.alloc hb2.out.size _
    have hBw2 : Hid (BRow (u2.alloc (.cells #[.slice O l.length co, .slice (some ⟨Bw, 0, none⟩) l.length l.length] 30)) Bw 4 (rWL l o)) := hBw.next ((Below.refl _ _).alloc (Nat.le_refl _) _)
    clear hBw hbn c0 c1 hb hb2 hRd
    go_upto_region 18 with fail
    clear hbW hb1 hBX
    generalize u2.heap.size = B2 at hBX2 ⊢
    generalize u2.alloc (.cells #[.slice O l.length co, .slice (some ⟨Bw, 0, none⟩) l.length l.length] 30) = w3 at *
    have hF3 : Hid (FH w3 A l c) := hFH.out.next hb3.out
    have hM3 : Hid (RM w3 O (some ⟨Bw, 0, none⟩) o (rWL l o)) := ⟨(hMH.out.next hb3.out).ro, hBw2.out.recs⟩
    have hb1 := hb3
    have hBX := hBX2
    have hb : Hid (Below w3.heap.size w3 w3) := Below.refl _ _
    have hL2 : Hid (∀ W, Below w3.heap.size w3 W → Calls Tryd.prog 23 #[.slice A l.length c, .agg #[.slice O l.length co, .slice (some ⟨Bw, 0, none⟩) l.length l.length]] W fun e w' => e = .returned (.int .i64 (valR l o (rWL l o))) ∧ Below W.heap.size W w') := fun W h => by
      have h1 := lvalue A O (some ⟨Bw, 0, none⟩) l o (rWL l o) c co l.length W (hF3.out.next h) hvH.out (hM3.out.next h) (by omega) (by rw [rWL_len]; have := hvH.out.2.1; omega)
      rw [n2H.out, rWL_len] at h1
      exact h1
    have c0 := hBX.out.c0
    have c1 := hBX.out.c1
    have hbd := valR_bd (o := o) (v := rWL l o) hvH.out.num
    have hKw : Hid (∀ W, Below w3.heap.size w3 W → Calls Tryd.prog 9 #[] W fun e w' => e = .returned (.bool true) ∧ Below W.heap.size W w') := fun W h => hK.out W (hb1.out.trans (h.mono hb1.out.size))
    by_cases hq : valR l o (rWL l o) = -1
    · have hA2 : Hid (∀ W, Below w3.heap.size w3 W → Calls Tryd.prog 21 #[.slice A l.length c, .agg #[.slice O l.length co, .slice (some ⟨Bw, 0, none⟩) l.length l.length]] W fun e w' => e = .returned (.tuple #[.bool false, .int .i64 0]) ∧ Below W.heap.size W w') := fun W h => by
        have h1 := pAllowed_no A O (some ⟨Bw, 0, none⟩) l o (rWL l o) c co l.length W (hF3.out.next h) (hM3.out.next h) (by omega) (by rw [rWL_len]; have := hvH.out.2.1; omega) hvH.out hq
        rw [n2H.out, rWL_len] at h1
        exact h1
      rw [hq] at hL2
      clear hbd hq
      go_wp2_with fail
      go_at_call 21
      refine (hA2.out _ hb.out).mono ?_
      rintro e u ⟨rfl, hbn⟩
      replace hb := Lib.hid (hb.out.trans (hbn.mono hb.out.size))
      clear hbn c0 c1
      have c0 := (hBX.out.next hb.out).c0
      have c1 := (hBX.out.next hb.out).c1
      go_wp2_with fail
      go_at_call 23
      refine (hL2.out _ hb.out).mono ?_
      rintro e u ⟨rfl, hbn⟩
      replace hb := Lib.hid (hb.out.trans (hbn.mono hb.out.size))
      clear hbn c0 c1
      have c0 := (hBX.out.next hb.out).c0
      have c1 := (hBX.out.next hb.out).c1
      go_wp2_with fail
      go_at_call 9
      refine (hKw.out _ hb.out).mono ?_
      rintro e u ⟨rfl, hbn⟩
      replace hb := Lib.hid (hb.out.trans (hbn.mono hb.out.size))
      clear hbn c0 c1
      have c0 := (hBX.out.next hb.out).c0
      have c1 := (hBX.out.next hb.out).c1
      go_wp2_with fail
      go_ret
      exact ⟨rfl, hb1.out.trans (hb.out.mono hb1.out.size)⟩
    · have hA2 : Hid (∀ W, Below w3.heap.size w3 W → Calls Tryd.prog 21 #[.slice A l.length c, .agg #[.slice O l.length co, .slice (some ⟨Bw, 0, none⟩) l.length l.length]] W fun e w' => e = .returned (.tuple #[.bool true, .int .i64 0]) ∧ Below W.heap.size W w') := fun W h => by
        have h1 := pAllowed_ok A O (some ⟨Bw, 0, none⟩) l o (rWL l o) c co l.length W (hF3.out.next h) (hM3.out.next h) (by omega) (by rw [rWL_len]; have := hvH.out.2.1; omega) hvH.out hq
        rw [n2H.out, rWL_len] at h1
        exact h1
      obtain ⟨Q, hQ⟩ : ∃ Q, valR l o (rWL l o) = Q := ⟨_, rfl⟩
      rw [hQ] at hL2 hbd hq
      have hQ0 : 0 ≤ Q := hbd.resolve_left hq
      clear hbd hq hQ
      go_wp2_with fail
      go_at_call 21
      refine (hA2.out _ hb.out).mono ?_
      rintro e u ⟨rfl, hbn⟩
      replace hb := Lib.hid (hb.out.trans (hbn.mono hb.out.size))
      clear hbn c0 c1
      have c0 := (hBX.out.next hb.out).c0
      have c1 := (hBX.out.next hb.out).c1
      go_wp2_with fail
      go_at_call 23
      refine (hL2.out _ hb.out).mono ?_
      rintro e u ⟨rfl, hbn⟩
      replace hb := Lib.hid (hb.out.trans (hbn.mono hb.out.size))
      clear hbn c0 c1
      have c0 := (hBX.out.next hb.out).c0
      have c1 := (hBX.out.next hb.out).c1
      go_wp2_with fail
      go_at_call 9
      refine (hKw.out _ hb.out).mono ?_
      rintro e u ⟨rfl, hbn⟩
      replace hb := Lib.hid (hb.out.trans (hbn.mono hb.out.size))
      clear hbn c0 c1
      have c0 := (hBX.out.next hb.out).c0
      have c1 := (hBX.out.next hb.out).c1
      go_wp2_with fail
      go_ret
      exact ⟨rfl, hb1.out.trans (hb.out.mono hb1.out.size)⟩
set_option maxRecDepth 100000 in
set_option maxHeartbeats 8000000 in
theorem pv_ok (A : Option Addr) (l : List Ent) (c : Nat) (O : Option Addr) (o : List Int) (co : Nat) (V : Option Addr) (v : List Bool) (cv : Nat) (w : World) (hG : FI w A l c) (hM : RM w O V o v) (hol : o.length ≤ maxLen) (hvl : v.length ≤ maxLen) (hT : TabOK w) (hf : fewP l) (h8 : ¬ 8 < o.length) (h9 : ¬ 8 < v.length) (hv : okF l) (hn : valR l o v ≠ -1) : Calls Tryd.prog 6 #[.slice A l.length c, .agg #[.slice O o.length co, .slice V v.length cv]] w fun e w' => e = .returned (.bool true) ∧ Below w.heap.size w w' := by
  have hfe : Hid (∀ W, Below w.heap.size w W → Calls Tryd.prog 12 #[.slice A l.length c] W fun e w' => e = .returned (.bool (fewB l)) ∧ W = w') := fun W h => lfew A l c W (hG.next h)
  have hK : Hid (∀ W, Below w.heap.size w W → Calls Tryd.prog 9 #[] W fun e w' => e = .returned (.bool true) ∧ Below W.heap.size W w') := fun W h => known_43 W (hT.next h)
  have hBX := Lib.hid (RB.new w (.slice O o.length co) (.slice V v.length cv))
  have hb1 : Hid (Below w.heap.size w (w.alloc (.cells #[.slice O o.length co, .slice V v.length cv] 30))) := (Below.refl _ _).alloc (Nat.le_refl _) _
  have q1 : ¬ (8 : Int) < (o.length : Int) := by omega
  have q2 : ¬ (8 : Int) < (v.length : Int) := by omega
  rw [fewB_yes hf] at hfe
  have hF := hG.few hf
  have hVd : Hid (∀ W, Below w.heap.size w W → Calls Tryd.prog 11 #[.slice A l.length c] W fun e w' => e = .returned (.bool true) ∧ Below W.heap.size W w') := fun W h => fB_true hv ▸ (hF.next h).lvalid
  obtain ⟨K, hKe⟩ : ∃ K, valR l o v = K := ⟨_, rfl⟩
  have hK0 : 0 ≤ K := by rcases valR_bd (o := o) (v := v) hv.num with h | h; exact absurd h hn; omega
  have hA : Hid (∀ W, Below w.heap.size w W → Calls Tryd.prog 21 #[.slice A l.length c, .agg #[.slice O o.length co, .slice V v.length cv]] W fun e w' => e = .returned (.tuple #[.bool true, .int .i64 0]) ∧ Below W.heap.size W w') := fun W h => pAllowed_ok A O V l o v c co cv W (hF.next h) (hM.next h) (by omega) (by omega) hv hn
  have hU : Hid (∀ W, Below w.heap.size w W → Calls Tryd.prog 22 #[.slice A l.length c, .agg #[.slice O o.length co, .slice V v.length cv]] W fun e w' => e = .returned (.tuple #[.int .i64 K, .int .i64 0]) ∧ Below W.heap.size W w') := fun W h => hKe ▸ pValue_ok A O V l o v c co cv W (hF.next h) (hM.next h) (by omega) (by omega) hv hn
  have hL : Hid (∀ W, Below w.heap.size w W → Calls Tryd.prog 23 #[.slice A l.length c, .agg #[.slice O o.length co, .slice V v.length cv]] W fun e w' => e = .returned (.int .i64 K) ∧ Below W.heap.size W w') := fun W h => hKe ▸ lvalue A O V l o v c co cv W (hF.next h) hv (hM.next h) (by omega) (by omega)
  have k1 : ¬ K < 0 := by omega
  have k2 : (K != K) = false := bne_self_eq_false _
  have hFH := Lib.hid hF
  have hMH := Lib.hid hM
  have hvH := Lib.hid hv
  clear hG hM hT hf hF hv hn hKe
  go_enter Tryd.func6, Tryd.ntmps6
  go_upto_region 1 with fail
  generalize w.heap.size = B0 at hBX ⊢
  generalize w.alloc (.cells #[.slice O o.length co, .slice V v.length cv] 30) = w1 at *
  have hb : Hid (Below w1.heap.size w1 w1) := Below.refl _ _
  have c0 := hBX.out.c0
  have c1 := hBX.out.c1
  go_wp2_with fail
  go_at_call 12
  refine (hfe.out _ hb1.out).mono ?_
  rintro e u ⟨rfl, rfl⟩
  go_wp2_with fail
  go_at_call 21
  refine (hA.out _ (hb1.out.trans (hb.out.mono hb1.out.size))).mono ?_
  rintro e u ⟨rfl, hbn⟩
  replace hb := Lib.hid (hb.out.trans (hbn.mono hb.out.size))
  clear hbn
  clear c0 c1
  have c0 := (hBX.out.next hb.out).c0
  have c1 := (hBX.out.next hb.out).c1
  go_wp2_with fail
  go_at_call 22
  refine (hU.out _ (hb1.out.trans (hb.out.mono hb1.out.size))).mono ?_
  rintro e u ⟨rfl, hbn⟩
  replace hb := Lib.hid (hb.out.trans (hbn.mono hb.out.size))
  clear hbn
  clear c0 c1
  have c0 := (hBX.out.next hb.out).c0
  have c1 := (hBX.out.next hb.out).c1
  go_wp2_with fail
  go_at_call 11
  refine (hVd.out _ (hb1.out.trans (hb.out.mono hb1.out.size))).mono ?_
  rintro e u ⟨rfl, hbn⟩
  replace hb := Lib.hid (hb.out.trans (hbn.mono hb.out.size))
  clear hbn
  clear c0 c1
  have c0 := (hBX.out.next hb.out).c0
  have c1 := (hBX.out.next hb.out).c1
  go_wp2_with fail
  go_at_call 23
  refine (hL.out _ (hb1.out.trans (hb.out.mono hb1.out.size))).mono ?_
  rintro e u ⟨rfl, hbn⟩
  replace hb := Lib.hid (hb.out.trans (hbn.mono hb.out.size))
  clear hbn
  clear c0 c1
  have c0 := (hBX.out.next hb.out).c0
  have c1 := (hBX.out.next hb.out).c1
  have hbW : Hid (Below w.heap.size w u) := hb1.out.trans (hb.out.mono hb1.out.size)
  clear hA hU hVd hL hfe
  go_wp2_with fail
  go_loop [10] (fun i => ∃ k : Nat, k ≤ o.length ∧ i = .int .i64 k ∧ Hid (oUp l.length o k) ∧ (0 < k → o.length = l.length)) (fun i => o.length - (intOf i).toNat)
  case atStart => exact ⟨0, by omega, rfl, fun i x hi => absurd hi (Nat.not_lt_zero _), fun h => absurd h (Nat.lt_irrefl _)⟩
  case round =>
    obtain ⟨k, hk, rfl, hup, hlen⟩ := hrel
    have hk0 : (0 : Int) ≤ (k : Int) := Int.natCast_nonneg _
    by_cases hkn : k < o.length
    · obtain ⟨x, hx⟩ : ∃ x, o[k]? = some x := ⟨_, List.getElem?_eq_getElem hkn⟩
      obtain ⟨bo, oo, hAo, hlo, e0⟩ := rec1 (hMH.out.next hbW.out).ro hx
      rw [hAo] at c0
      have hkI : (k : Int) < (o.length : Int) := by omega
      replace hx := Lib.hid hx
      replace hAo := Lib.hid hAo
      clear hlo
      by_cases n0 : x < -1
      · skip
        go_wp2_with fail
        go_at_call 9
        refine (hK.out _ (hb1.out.trans (hb.out.mono hb1.out.size))).mono ?_
        rintro e u ⟨rfl, hbn⟩
        replace hb := Lib.hid (hb.out.trans (hbn.mono hb.out.size))
        clear hbn
        clear c0 c1
        have c0 := (hBX.out.next hb.out).c0
        have c1 := (hBX.out.next hb.out).c1
        go_wp2_with fail
        go_ret
        exact ⟨rfl, hb1.out.trans (hb.out.mono hb1.out.size)⟩
      by_cases n1 : (l.length : Int) ≤ x
      · skip
        go_wp2_with fail
        go_at_call 9
        refine (hK.out _ (hb1.out.trans (hb.out.mono hb1.out.size))).mono ?_
        rintro e u ⟨rfl, hbn⟩
        replace hb := Lib.hid (hb.out.trans (hbn.mono hb.out.size))
        clear hbn
        clear c0 c1
        have c0 := (hBX.out.next hb.out).c0
        have c1 := (hBX.out.next hb.out).c1
        go_wp2_with fail
        go_ret
        exact ⟨rfl, hb1.out.trans (hb.out.mono hb1.out.size)⟩
      by_cases n2 : o.length = l.length
      rotate_left
      · have q3 : ((o.length : Int) != (l.length : Int)) = true := by rw [bne_iff_ne]; omega
        clear n2
        go_wp2_with fail
        go_at_call 9
        refine (hK.out _ (hb1.out.trans (hb.out.mono hb1.out.size))).mono ?_
        rintro e u ⟨rfl, hbn⟩
        replace hb := Lib.hid (hb.out.trans (hbn.mono hb.out.size))
        clear hbn
        clear c0 c1
        have c0 := (hBX.out.next hb.out).c0
        have c1 := (hBX.out.next hb.out).c1
        go_wp2_with fail
        go_ret
        exact ⟨rfl, hb1.out.trans (hb.out.mono hb1.out.size)⟩
      have q3 : ((o.length : Int) != (l.length : Int)) = false := by rw [bne_eq_false_iff_eq]; omega
      have n2H := Lib.hid n2
      clear n2 hlen
      by_cases n3 : x = (k : Int)
      · have q4 : (x == (k : Int)) = true := by rw [beq_iff_eq]; exact n3
        clear n3
        go_wp2_with fail
        go_at_call 9
        refine (hK.out _ (hb1.out.trans (hb.out.mono hb1.out.size))).mono ?_
        rintro e u ⟨rfl, hbn⟩
        replace hb := Lib.hid (hb.out.trans (hbn.mono hb.out.size))
        clear hbn
        clear c0 c1
        have c0 := (hBX.out.next hb.out).c0
        have c1 := (hBX.out.next hb.out).c1
        go_wp2_with fail
        go_ret
        exact ⟨rfl, hb1.out.trans (hb.out.mono hb1.out.size)⟩
      have q4 : (x == (k : Int)) = false := by rw [beq_eq_false_iff_ne]; exact n3
      have hnew : Hid (oUp l.length o (k + 1)) := fun i z hi hz => by
        by_cases e : i = k
        · subst e
          obtain rfl := Option.some.inj (hx.out.symm.trans hz)
          exact ⟨by omega, by omega, n3⟩
        · exact hup.out i z (by omega) hz
      clear n3
      go_wp2_with fail
      go_round
      case rel => exact ⟨k + 1, by omega, by go_num, hnew, fun _ => n2H.out⟩
      case measure => simp [intOf]; omega
    obtain rfl : k = o.length := by omega
    by_cases n2 : o.length = l.length
    rotate_left
    · have q3 : ((o.length : Int) != (l.length : Int)) = true := by rw [bne_iff_ne]; omega
      clear n2 hlen
      go_wp2_with fail
      go_at_call 9
      refine (hK.out _ (hb1.out.trans (hb.out.mono hb1.out.size))).mono ?_
      rintro e u ⟨rfl, hbn⟩
      replace hb := Lib.hid (hb.out.trans (hbn.mono hb.out.size))
      clear hbn
      clear c0 c1
      have c0 := (hBX.out.next hb.out).c0
      have c1 := (hBX.out.next hb.out).c1
      go_wp2_with fail
      go_ret
      exact ⟨rfl, hb1.out.trans (hb.out.mono hb1.out.size)⟩
    have q3 : ((o.length : Int) != (l.length : Int)) = false := by rw [bne_eq_false_iff_eq]; omega
    have hoO : oOk l.length o := ⟨n2, fun i x hx => hup.out i x (List.getElem?_eq_some_iff.1 hx).1 hx⟩
    have hRd : Hid (∀ W, Below w.heap.size w W → Calls Tryd.prog 24 #[.slice A l.length c, .slice O o.length co] W fun e w' => RdR l o O co e W w') := fun W h => lround A O l o c co W (hFH.out.next h) hvH.out (hMH.out.next h).ro hoO
    have n2H := Lib.hid n2
    clear hoO hlen n2
    go_wp2_with fail
    go_at_call 24
    refine (hRd.out _ hbW.out).mono ?_
    rintro e u2 hrd
    obtain ⟨⟨Bw, rfl, hBw⟩, hbn⟩ := hrd
    have hBX2 := Lib.hid (RB.new u2 (.slice O l.length co) (.slice (some ⟨Bw, 0, none⟩) l.length l.length))
    have hb2 : Hid (Below w.heap.size w u2) := hbW.out.trans (hbn.mono hbW.out.size)
    have hb3 : Hid (Below w.heap.size w (u2.alloc (.cells #[.slice O l.length co, .slice (some ⟨Bw, 0, none⟩) l.length l.length] 30))) := hb2.out.alloc hb2.out.size _
    have hBw2 : Hid (BRow (u2.alloc (.cells #[.slice O l.length co, .slice (some ⟨Bw, 0, none⟩) l.length l.length] 30)) Bw 4 (rWL l o)) := hBw.next ((Below.refl _ _).alloc (Nat.le_refl _) _)
    clear hBw hbn c0 c1 hb hb2 hRd
    go_upto_region 18 with fail
    clear hbW hb1 hBX
    generalize u2.heap.size = B2 at hBX2 ⊢
    generalize u2.alloc (.cells #[.slice O l.length co, .slice (some ⟨Bw, 0, none⟩) l.length l.length] 30) = w3 at *
    have hF3 : Hid (FH w3 A l c) := hFH.out.next hb3.out
    have hM3 : Hid (RM w3 O (some ⟨Bw, 0, none⟩) o (rWL l o)) := ⟨(hMH.out.next hb3.out).ro, hBw2.out.recs⟩
    have hb1 := hb3
    have hBX := hBX2
    have hb : Hid (Below w3.heap.size w3 w3) := Below.refl _ _
    have hL2 : Hid (∀ W, Below w3.heap.size w3 W → Calls Tryd.prog 23 #[.slice A l.length c, .agg #[.slice O l.length co, .slice (some ⟨Bw, 0, none⟩) l.length l.length]] W fun e w' => e = .returned (.int .i64 (valR l o (rWL l o))) ∧ Below W.heap.size W w') := fun W h => by
      have h1 := lvalue A O (some ⟨Bw, 0, none⟩) l o (rWL l o) c co l.length W (hF3.out.next h) hvH.out (hM3.out.next h) (by omega) (by rw [rWL_len]; have := hvH.out.2.1; omega)
      rw [n2H.out, rWL_len] at h1
      exact h1
    have c0 := hBX.out.c0
    have c1 := hBX.out.c1
    have hbd := valR_bd (o := o) (v := rWL l o) hvH.out.num
    have hKw : Hid (∀ W, Below w3.heap.size w3 W → Calls Tryd.prog 9 #[] W fun e w' => e = .returned (.bool true) ∧ Below W.heap.size W w') := fun W h => hK.out W (hb1.out.trans (h.mono hb1.out.size))
    by_cases hq : valR l o (rWL l o) = -1
    · have hA2 : Hid (∀ W, Below w3.heap.size w3 W → Calls Tryd.prog 21 #[.slice A l.length c, .agg #[.slice O l.length co, .slice (some ⟨Bw, 0, none⟩) l.length l.length]] W fun e w' => e = .returned (.tuple #[.bool false, .int .i64 0]) ∧ Below W.heap.size W w') := fun W h => by
        have h1 := pAllowed_no A O (some ⟨Bw, 0, none⟩) l o (rWL l o) c co l.length W (hF3.out.next h) (hM3.out.next h) (by omega) (by rw [rWL_len]; have := hvH.out.2.1; omega) hvH.out hq
        rw [n2H.out, rWL_len] at h1
        exact h1
      rw [hq] at hL2
      clear hbd hq
      go_wp2_with fail
      go_at_call 21
      refine (hA2.out _ hb.out).mono ?_
      rintro e u ⟨rfl, hbn⟩
      replace hb := Lib.hid (hb.out.trans (hbn.mono hb.out.size))
      clear hbn c0 c1
      have c0 := (hBX.out.next hb.out).c0
      have c1 := (hBX.out.next hb.out).c1
      go_wp2_with fail
      go_at_call 23
      refine (hL2.out _ hb.out).mono ?_
      rintro e u ⟨rfl, hbn⟩
      replace hb := Lib.hid (hb.out.trans (hbn.mono hb.out.size))
      clear hbn c0 c1
      have c0 := (hBX.out.next hb.out).c0
      have c1 := (hBX.out.next hb.out).c1
      go_wp2_with fail
      go_at_call 9
      refine (hKw.out _ hb.out).mono ?_
      rintro e u ⟨rfl, hbn⟩
      replace hb := Lib.hid (hb.out.trans (hbn.mono hb.out.size))
      clear hbn c0 c1
      have c0 := (hBX.out.next hb.out).c0
      have c1 := (hBX.out.next hb.out).c1
      go_wp2_with fail
      go_ret
      exact ⟨rfl, hb1.out.trans (hb.out.mono hb1.out.size)⟩
    · have hA2 : Hid (∀ W, Below w3.heap.size w3 W → Calls Tryd.prog 21 #[.slice A l.length c, .agg #[.slice O l.length co, .slice (some ⟨Bw, 0, none⟩) l.length l.length]] W fun e w' => e = .returned (.tuple #[.bool true, .int .i64 0]) ∧ Below W.heap.size W w') := fun W h => by
        have h1 := pAllowed_ok A O (some ⟨Bw, 0, none⟩) l o (rWL l o) c co l.length W (hF3.out.next h) (hM3.out.next h) (by omega) (by rw [rWL_len]; have := hvH.out.2.1; omega) hvH.out hq
        rw [n2H.out, rWL_len] at h1
        exact h1
      obtain ⟨Q, hQ⟩ : ∃ Q, valR l o (rWL l o) = Q := ⟨_, rfl⟩
      rw [hQ] at hL2 hbd hq
      have hQ0 : 0 ≤ Q := hbd.resolve_left hq
      clear hbd hq hQ
      go_wp2_with fail
      go_at_call 21
      refine (hA2.out _ hb.out).mono ?_
      rintro e u ⟨rfl, hbn⟩
      replace hb := Lib.hid (hb.out.trans (hbn.mono hb.out.size))
      clear hbn c0 c1
      have c0 := (hBX.out.next hb.out).c0
      have c1 := (hBX.out.next hb.out).c1
      go_wp2_with fail
      go_at_call 23
      refine (hL2.out _ hb.out).mono ?_
      rintro e u ⟨rfl, hbn⟩
      replace hb := Lib.hid (hb.out.trans (hbn.mono hb.out.size))
      clear hbn c0 c1
      have c0 := (hBX.out.next hb.out).c0
      have c1 := (hBX.out.next hb.out).c1
      go_wp2_with fail
      go_at_call 9
      refine (hKw.out _ hb.out).mono ?_
      rintro e u ⟨rfl, hbn⟩
      replace hb := Lib.hid (hb.out.trans (hbn.mono hb.out.size))
      clear hbn c0 c1
      have c0 := (hBX.out.next hb.out).c0
      have c1 := (hBX.out.next hb.out).c1
      go_wp2_with fail
      go_ret
      exact ⟨rfl, hb1.out.trans (hb.out.mono hb1.out.size)⟩
set_option maxRecDepth 100000 in
theorem law_pvalues (A : Option Addr) (l : List Ent) (c : Nat) (O : Option Addr) (o : List Int) (co : Nat) (V : Option Addr) (v : List Bool) (cv : Nat) (w : World) (hG : FI w A l c) (hM : RM w O V o v) (hol : o.length ≤ maxLen) (hvl : v.length ≤ maxLen) (hT : TabOK w)  : Calls Tryd.prog 6 #[.slice A l.length c, .agg #[.slice O o.length co, .slice V v.length cv]] w fun e w' => e = .returned (.bool true) ∧ Below w.heap.size w w' := by
  by_cases hf : fewP l
  rotate_left
  · exact pv_few A l c O o co V v cv w hG hM hol hvl hT hf
  by_cases h8 : 8 < o.length
  · exact pv_o A l c O o co V v cv w hG hM hol hvl hT hf h8
  by_cases h9 : 8 < v.length
  · exact pv_v A l c O o co V v cv w hG hM hol hvl hT hf h8 h9
  by_cases hv : okF l
  rotate_left
  · exact pv_inv A l c O o co V v cv w hG hM hol hvl hT hf h8 h9 hv
  by_cases hn : valR l o v = -1
  · exact pv_no A l c O o co V v cv w hG hM hol hvl hT hf h8 h9 hv hn
  · exact pv_ok A l c O o co V v cv w hG hM hol hvl hT hf h8 h9 hv hn
end Go.Proofs.YtjjjdoealagpcaaDoor
