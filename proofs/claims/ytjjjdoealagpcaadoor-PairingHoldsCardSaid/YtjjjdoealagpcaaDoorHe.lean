/- Layer 43: Allowed and Value of the program. -/
import Derived.Test.YtjjjdoealagpcaaDoorHb
import Derived.Test.YtjjjdoealagpcaaDoorHc
import Derived.Test.YtjjjdoealagpcaaDoorHd
namespace Go.Proofs.YtjjjdoealagpcaaDoor
open Go Go.RowKit
set_option linter.unusedSimpArgs false
set_option linter.unusedVariables false
attribute [local go_sem ↓] Go.wp_at_zero Go.wp_at_succ
set_option maxRecDepth 100000 in
theorem pAllowed_bad (A O V : Option Addr) (l : List Ent) (o : List Int) (v : List Bool) (c co cv : Nat) (w : World) (hF : FH w A l c) (hM : RM w O V o v) (hol : o.length ≤ 100000) (hvl : v.length ≤ 100000) (hv : ¬ okF l) : Calls Tryd.prog 21 #[.slice A l.length c, .agg #[.slice O o.length co, .slice V v.length cv]] w fun e w' => e = .returned (.tuple #[.bool false, .int .i64 2]) ∧ Below w.heap.size w w' := by
  have hBX := Lib.hid (RB.new w (.slice O o.length co) (.slice V v.length cv))
  have hb1 : Hid (Below w.heap.size w (w.alloc (.cells #[.slice O o.length co, .slice V v.length cv] 30))) := (Below.refl _ _).alloc (Nat.le_refl _) _
  have hVd : Hid (∀ W, Below w.heap.size w W → Calls Tryd.prog 10 #[.slice A l.length c] W fun e w' => e = .returned (.bool false) ∧ Below W.heap.size W w') := fun W h => fB_false hv ▸ (hF.next h).pvalid
  clear hF hM hv
  go_enter Tryd.func21, Tryd.ntmps21
  go_upto_region 1 with fail
  generalize w.heap.size = B0 at hBX ⊢
  generalize w.alloc (.cells #[.slice O o.length co, .slice V v.length cv] 30) = w1 at *
  have hb : Hid (Below w1.heap.size w1 w1) := Below.refl _ _
  go_wp2_with fail
  go_at_call 10
  refine (hVd.out _ (hb1.out.trans (hb.out.mono hb1.out.size))).mono ?_
  rintro e u ⟨rfl, hbn⟩
  replace hb := Lib.hid (hb.out.trans (hbn.mono hb.out.size))
  clear hbn
  have c0 := (hBX.out.next hb.out).c0
  have c1 := (hBX.out.next hb.out).c1
  go_wp2_with fail
  go_ret2
  exact ⟨rfl, hb1.out.trans (hb.out.mono hb1.out.size)⟩
set_option maxRecDepth 100000 in
theorem pAllowed_no (A O V : Option Addr) (l : List Ent) (o : List Int) (v : List Bool) (c co cv : Nat) (w : World) (hF : FH w A l c) (hM : RM w O V o v) (hol : o.length ≤ 100000) (hvl : v.length ≤ 100000) (hv : okF l) (hn : valR l o v = -1) : Calls Tryd.prog 21 #[.slice A l.length c, .agg #[.slice O o.length co, .slice V v.length cv]] w fun e w' => e = .returned (.tuple #[.bool false, .int .i64 0]) ∧ Below w.heap.size w w' := by
  have hBX := Lib.hid (RB.new w (.slice O o.length co) (.slice V v.length cv))
  have hb1 : Hid (Below w.heap.size w (w.alloc (.cells #[.slice O o.length co, .slice V v.length cv] 30))) := (Below.refl _ _).alloc (Nat.le_refl _) _
  have hVd : Hid (∀ W, Below w.heap.size w W → Calls Tryd.prog 10 #[.slice A l.length c] W fun e w' => e = .returned (.bool true) ∧ Below W.heap.size W w') := fun W h => fB_true hv ▸ (hF.next h).pvalid
  obtain ⟨K, hK⟩ : ∃ K, valR l o v = K := ⟨_, rfl⟩
  have hCv : Hid (∀ W, Below w.heap.size w W → Calls Tryd.prog 40 #[.slice A l.length c, .agg #[.slice O o.length co, .slice V v.length cv]] W fun e w' => e = .returned (.int .i64 K) ∧ Below W.heap.size W w') := fun W h => hK ▸ pvalue A O V l o v c co cv W (hF.next h) hv (hM.next h) hol hvl
  have q : (K != -1) = false := by rw [bne_eq_false_iff_eq, ← hK]; exact hn
  clear hF hM hv hK
  go_enter Tryd.func21, Tryd.ntmps21
  go_upto_region 1 with fail
  generalize w.heap.size = B0 at hBX ⊢
  generalize w.alloc (.cells #[.slice O o.length co, .slice V v.length cv] 30) = w1 at *
  have hb : Hid (Below w1.heap.size w1 w1) := Below.refl _ _
  go_wp2_with fail
  go_at_call 10
  refine (hVd.out _ (hb1.out.trans (hb.out.mono hb1.out.size))).mono ?_
  rintro e u ⟨rfl, hbn⟩
  replace hb := Lib.hid (hb.out.trans (hbn.mono hb.out.size))
  clear hbn
  have c0 := (hBX.out.next hb.out).c0
  have c1 := (hBX.out.next hb.out).c1
  go_wp2_with fail
  go_at_call 40
  refine (hCv.out _ (hb1.out.trans (hb.out.mono hb1.out.size))).mono ?_
  rintro e u ⟨rfl, hbn⟩
  replace hb := Lib.hid (hb.out.trans (hbn.mono hb.out.size))
  clear hbn
  have c0 := (hBX.out.next hb.out).c0
  have c1 := (hBX.out.next hb.out).c1
  go_wp2_with fail
  go_ret2
  exact ⟨rfl, hb1.out.trans (hb.out.mono hb1.out.size)⟩
set_option maxRecDepth 100000 in
theorem pAllowed_ok (A O V : Option Addr) (l : List Ent) (o : List Int) (v : List Bool) (c co cv : Nat) (w : World) (hF : FH w A l c) (hM : RM w O V o v) (hol : o.length ≤ 100000) (hvl : v.length ≤ 100000) (hv : okF l) (hn : valR l o v ≠ -1) : Calls Tryd.prog 21 #[.slice A l.length c, .agg #[.slice O o.length co, .slice V v.length cv]] w fun e w' => e = .returned (.tuple #[.bool true, .int .i64 0]) ∧ Below w.heap.size w w' := by
  have hBX := Lib.hid (RB.new w (.slice O o.length co) (.slice V v.length cv))
  have hb1 : Hid (Below w.heap.size w (w.alloc (.cells #[.slice O o.length co, .slice V v.length cv] 30))) := (Below.refl _ _).alloc (Nat.le_refl _) _
  have hVd : Hid (∀ W, Below w.heap.size w W → Calls Tryd.prog 10 #[.slice A l.length c] W fun e w' => e = .returned (.bool true) ∧ Below W.heap.size W w') := fun W h => fB_true hv ▸ (hF.next h).pvalid
  obtain ⟨K, hK⟩ : ∃ K, valR l o v = K := ⟨_, rfl⟩
  have hCv : Hid (∀ W, Below w.heap.size w W → Calls Tryd.prog 40 #[.slice A l.length c, .agg #[.slice O o.length co, .slice V v.length cv]] W fun e w' => e = .returned (.int .i64 K) ∧ Below W.heap.size W w') := fun W h => hK ▸ pvalue A O V l o v c co cv W (hF.next h) hv (hM.next h) hol hvl
  have q : (K != -1) = true := by rw [bne_iff_ne, ← hK]; exact hn
  clear hF hM hv hK
  go_enter Tryd.func21, Tryd.ntmps21
  go_upto_region 1 with fail
  generalize w.heap.size = B0 at hBX ⊢
  generalize w.alloc (.cells #[.slice O o.length co, .slice V v.length cv] 30) = w1 at *
  have hb : Hid (Below w1.heap.size w1 w1) := Below.refl _ _
  go_wp2_with fail
  go_at_call 10
  refine (hVd.out _ (hb1.out.trans (hb.out.mono hb1.out.size))).mono ?_
  rintro e u ⟨rfl, hbn⟩
  replace hb := Lib.hid (hb.out.trans (hbn.mono hb.out.size))
  clear hbn
  have c0 := (hBX.out.next hb.out).c0
  have c1 := (hBX.out.next hb.out).c1
  go_wp2_with fail
  go_at_call 40
  refine (hCv.out _ (hb1.out.trans (hb.out.mono hb1.out.size))).mono ?_
  rintro e u ⟨rfl, hbn⟩
  replace hb := Lib.hid (hb.out.trans (hbn.mono hb.out.size))
  clear hbn
  have c0 := (hBX.out.next hb.out).c0
  have c1 := (hBX.out.next hb.out).c1
  go_wp2_with fail
  go_ret2
  exact ⟨rfl, hb1.out.trans (hb.out.mono hb1.out.size)⟩
set_option maxRecDepth 100000 in
theorem pValue_bad (A O V : Option Addr) (l : List Ent) (o : List Int) (v : List Bool) (c co cv : Nat) (w : World) (hF : FH w A l c) (hM : RM w O V o v) (hol : o.length ≤ 100000) (hvl : v.length ≤ 100000) (hv : ¬ okF l) : Calls Tryd.prog 22 #[.slice A l.length c, .agg #[.slice O o.length co, .slice V v.length cv]] w fun e w' => e = .returned (.tuple #[.int .i64 0, .int .i64 2]) ∧ Below w.heap.size w w' := by
  have hBX := Lib.hid (RB.new w (.slice O o.length co) (.slice V v.length cv))
  have hb1 : Hid (Below w.heap.size w (w.alloc (.cells #[.slice O o.length co, .slice V v.length cv] 30))) := (Below.refl _ _).alloc (Nat.le_refl _) _
  have hVd : Hid (∀ W, Below w.heap.size w W → Calls Tryd.prog 10 #[.slice A l.length c] W fun e w' => e = .returned (.bool false) ∧ Below W.heap.size W w') := fun W h => fB_false hv ▸ (hF.next h).pvalid
  clear hF hM hv
  go_enter Tryd.func22, Tryd.ntmps22
  go_upto_region 1 with fail
  generalize w.heap.size = B0 at hBX ⊢
  generalize w.alloc (.cells #[.slice O o.length co, .slice V v.length cv] 30) = w1 at *
  have hb : Hid (Below w1.heap.size w1 w1) := Below.refl _ _
  go_wp2_with fail
  go_at_call 10
  refine (hVd.out _ (hb1.out.trans (hb.out.mono hb1.out.size))).mono ?_
  rintro e u ⟨rfl, hbn⟩
  replace hb := Lib.hid (hb.out.trans (hbn.mono hb.out.size))
  clear hbn
  have c0 := (hBX.out.next hb.out).c0
  have c1 := (hBX.out.next hb.out).c1
  go_wp2_with fail
  go_ret2
  exact ⟨rfl, hb1.out.trans (hb.out.mono hb1.out.size)⟩
set_option maxRecDepth 100000 in
theorem pValue_no (A O V : Option Addr) (l : List Ent) (o : List Int) (v : List Bool) (c co cv : Nat) (w : World) (hF : FH w A l c) (hM : RM w O V o v) (hol : o.length ≤ 100000) (hvl : v.length ≤ 100000) (hv : okF l) (hn : valR l o v = -1) : Calls Tryd.prog 22 #[.slice A l.length c, .agg #[.slice O o.length co, .slice V v.length cv]] w fun e w' => e = .returned (.tuple #[.int .i64 0, .int .i64 2]) ∧ Below w.heap.size w w' := by
  have hBX := Lib.hid (RB.new w (.slice O o.length co) (.slice V v.length cv))
  have hb1 : Hid (Below w.heap.size w (w.alloc (.cells #[.slice O o.length co, .slice V v.length cv] 30))) := (Below.refl _ _).alloc (Nat.le_refl _) _
  have hVd : Hid (∀ W, Below w.heap.size w W → Calls Tryd.prog 10 #[.slice A l.length c] W fun e w' => e = .returned (.bool true) ∧ Below W.heap.size W w') := fun W h => fB_true hv ▸ (hF.next h).pvalid
  obtain ⟨K, hK⟩ : ∃ K, valR l o v = K := ⟨_, rfl⟩
  have hCv : Hid (∀ W, Below w.heap.size w W → Calls Tryd.prog 40 #[.slice A l.length c, .agg #[.slice O o.length co, .slice V v.length cv]] W fun e w' => e = .returned (.int .i64 K) ∧ Below W.heap.size W w') := fun W h => hK ▸ pvalue A O V l o v c co cv W (hF.next h) hv (hM.next h) hol hvl
  have q : (K == -1) = true := by rw [beq_iff_eq, ← hK]; exact hn
  clear hF hM hv hK
  go_enter Tryd.func22, Tryd.ntmps22
  go_upto_region 1 with fail
  generalize w.heap.size = B0 at hBX ⊢
  generalize w.alloc (.cells #[.slice O o.length co, .slice V v.length cv] 30) = w1 at *
  have hb : Hid (Below w1.heap.size w1 w1) := Below.refl _ _
  go_wp2_with fail
  go_at_call 10
  refine (hVd.out _ (hb1.out.trans (hb.out.mono hb1.out.size))).mono ?_
  rintro e u ⟨rfl, hbn⟩
  replace hb := Lib.hid (hb.out.trans (hbn.mono hb.out.size))
  clear hbn
  have c0 := (hBX.out.next hb.out).c0
  have c1 := (hBX.out.next hb.out).c1
  go_wp2_with fail
  go_at_call 40
  refine (hCv.out _ (hb1.out.trans (hb.out.mono hb1.out.size))).mono ?_
  rintro e u ⟨rfl, hbn⟩
  replace hb := Lib.hid (hb.out.trans (hbn.mono hb.out.size))
  clear hbn
  have c0 := (hBX.out.next hb.out).c0
  have c1 := (hBX.out.next hb.out).c1
  go_wp2_with fail
  go_ret2
  exact ⟨rfl, hb1.out.trans (hb.out.mono hb1.out.size)⟩
set_option maxRecDepth 100000 in
theorem pValue_ok (A O V : Option Addr) (l : List Ent) (o : List Int) (v : List Bool) (c co cv : Nat) (w : World) (hF : FH w A l c) (hM : RM w O V o v) (hol : o.length ≤ 100000) (hvl : v.length ≤ 100000) (hv : okF l) (hn : valR l o v ≠ -1) : Calls Tryd.prog 22 #[.slice A l.length c, .agg #[.slice O o.length co, .slice V v.length cv]] w fun e w' => e = .returned (.tuple #[.int .i64 (valR l o v), .int .i64 0]) ∧ Below w.heap.size w w' := by
  have hBX := Lib.hid (RB.new w (.slice O o.length co) (.slice V v.length cv))
  have hb1 : Hid (Below w.heap.size w (w.alloc (.cells #[.slice O o.length co, .slice V v.length cv] 30))) := (Below.refl _ _).alloc (Nat.le_refl _) _
  have hVd : Hid (∀ W, Below w.heap.size w W → Calls Tryd.prog 10 #[.slice A l.length c] W fun e w' => e = .returned (.bool true) ∧ Below W.heap.size W w') := fun W h => fB_true hv ▸ (hF.next h).pvalid
  obtain ⟨K, hK⟩ : ∃ K, valR l o v = K := ⟨_, rfl⟩
  have hCv : Hid (∀ W, Below w.heap.size w W → Calls Tryd.prog 40 #[.slice A l.length c, .agg #[.slice O o.length co, .slice V v.length cv]] W fun e w' => e = .returned (.int .i64 K) ∧ Below W.heap.size W w') := fun W h => hK ▸ pvalue A O V l o v c co cv W (hF.next h) hv (hM.next h) hol hvl
  have q : (K == -1) = false := by rw [beq_eq_false_iff_ne, ← hK]; exact hn
  rw [hK]
  clear hF hM hv hK
  go_enter Tryd.func22, Tryd.ntmps22
  go_upto_region 1 with fail
  generalize w.heap.size = B0 at hBX ⊢
  generalize w.alloc (.cells #[.slice O o.length co, .slice V v.length cv] 30) = w1 at *
  have hb : Hid (Below w1.heap.size w1 w1) := Below.refl _ _
  go_wp2_with fail
  go_at_call 10
  refine (hVd.out _ (hb1.out.trans (hb.out.mono hb1.out.size))).mono ?_
  rintro e u ⟨rfl, hbn⟩
  replace hb := Lib.hid (hb.out.trans (hbn.mono hb.out.size))
  clear hbn
  have c0 := (hBX.out.next hb.out).c0
  have c1 := (hBX.out.next hb.out).c1
  go_wp2_with fail
  go_at_call 40
  refine (hCv.out _ (hb1.out.trans (hb.out.mono hb1.out.size))).mono ?_
  rintro e u ⟨rfl, hbn⟩
  replace hb := Lib.hid (hb.out.trans (hbn.mono hb.out.size))
  clear hbn
  have c0 := (hBX.out.next hb.out).c0
  have c1 := (hBX.out.next hb.out).c1
  go_wp2_with fail
  go_at_call 40
  refine (hCv.out _ (hb1.out.trans (hb.out.mono hb1.out.size))).mono ?_
  rintro e u ⟨rfl, hbn⟩
  replace hb := Lib.hid (hb.out.trans (hbn.mono hb.out.size))
  clear hbn
  have c0 := (hBX.out.next hb.out).c0
  have c1 := (hBX.out.next hb.out).c1
  go_wp2_with fail
  go_ret2
  exact ⟨rfl, hb1.out.trans (hb.out.mono hb1.out.size)⟩
end Go.Proofs.YtjjjdoealagpcaaDoor
