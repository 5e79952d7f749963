/- Layer 43: the law of costs. -/
import Derived.Test.YtjjjdoealagpcaaDoorGw
namespace Go.Proofs.YtjjjdoealagpcaaDoor
open Go Go.RowKit
set_option linter.unusedSimpArgs false
set_option linter.unusedVariables false
attribute [local go_sem ↓] Go.wp_at_zero Go.wp_at_succ
theorem cst_pair {l : List Ent} {a b : Nat} {x y : Ent} (hx : l[a]? = some x) (hy : l[b]? = some y) : cst l a b = pairC x y b := by
  have hbl := (List.getElem?_eq_some_iff.1 hy).1
  unfold cst; rw [hx]; show (if b = l.length then _ else _) = _; rw [if_neg (by omega), hy]
theorem pairC_met {l : List Ent} (hv : okF l) {a b : Nat} {x y : Ent} (hx : l[a]? = some x) (hy : l[b]? = some y) : pairC x y b = -1 ↔ memI x.met b = true := by
  have nx := (hv.num x (List.mem_of_getElem? hx)).2
  have ny := (hv.num y (List.mem_of_getElem? hy)).2
  have h1 := sq_bd (d := x.score - y.score) (by omega) (by omega)
  have h2 := colC_bd x y
  unfold pairC
  cases memI x.met b with
  | true => simp
  | false => simp only [Bool.false_eq_true, if_false, iff_false]; omega
theorem byeC_bd {l : List Ent} (hv : okF l) {x : Ent} (hx : x ∈ l) : byeC l x = -1 ∨ 0 ≤ byeC l x := by
  unfold byeC
  split
  · exact Or.inl rfl
  · have h := lowF_bd l x.score hv.num (hv.num x hx).2.1
    have h2 := (hv.num x hx).2
    have := sq_bd (d := x.score - lowF l x.score) (by omega) (by omega)
    omega
theorem FH.lbye {w : World} {A : Option Addr} {l : List Ent} {c : Nat} (h : FH w A l c) (hv : okF l) {a : Nat} {x : Ent} (hx : l[a]? = some x) : Calls Tryd.prog 19 #[.slice A l.length c, .int .i64 (a : Int)] w fun e w' => e = .returned (.int .i64 (byeC l x)) ∧ Below w.heap.size w w' := Go.Proofs.YtjjjdoealagpcaaDoor.lbye A l c a x w h hx hv.num
set_option maxRecDepth 100000 in
set_option maxHeartbeats 4000000 in
theorem pc_inv (A : Option Addr) (l : List Ent) (c : Nat) (p q : Int) (w : World) (hG : FI w A l c) (hf : fewP l) (hT : TabOK w) (hv : ¬ okF l) : Calls Tryd.prog 5 #[.slice A l.length c, .int .i64 p, .int .i64 q] w fun e w' => e = .returned (.bool true) ∧ Below w.heap.size w w' := by
  have hF := hG.few hf
  have hl7 : l.length ≤ 7 := hf.2
  have hfe := Lib.hid (lfew A l c w hG)
  rw [fewB_yes hf] at hfe
  have hK : Hid (∀ W, Below w.heap.size w W → Calls Tryd.prog 9 #[] W fun e w' => e = .returned (.bool true) ∧ Below W.heap.size W w') := fun W h => known_43 W (hT.next h)
  have hbP : badP l p q := Or.inl hv
  have hbB : badB l p := Or.inl hv
  have hC : Hid (∀ W, Below w.heap.size w W → Calls Tryd.prog 16 #[.slice A l.length c, .int .i64 p, .int .i64 q] W fun e w' => e = .returned (.tuple #[.int .i64 (0), .int .i64 (2)]) ∧ Below W.heap.size W w') := fun W h => pCost_bad A l c p q W (hF.next h) hbP
  have hW : Hid (∀ W, Below w.heap.size w W → Calls Tryd.prog 17 #[.slice A l.length c, .int .i64 p, .int .i64 q] W fun e w' => e = .returned (.tuple #[.int .i64 (0), .int .i64 (2)]) ∧ Below W.heap.size W w') := fun W h => pColors_bad A l c p q W (hF.next h) hbP
  have hB : Hid (∀ W, Below w.heap.size w W → Calls Tryd.prog 18 #[.slice A l.length c, .int .i64 p] W fun e w' => e = .returned (.tuple #[.int .i64 (0), .int .i64 (2)]) ∧ Below W.heap.size W w') := fun W h => pBye_bad A l c p W (hF.next h) hbB
  have hV : Hid (∀ W, Below w.heap.size w W → Calls Tryd.prog 11 #[.slice A l.length c] W fun e w' => e = .returned (.bool false) ∧ Below W.heap.size W w') := fun W h => fB_false hv ▸ (hF.next h).lvalid
  clear hF hf hG hT
  go_enter Tryd.func5, Tryd.ntmps5
  go_wp2_with fail
  go_at_call 12
  refine hfe.out.mono ?_
  rintro e w0 ⟨rfl, rfl⟩
  have hb : Hid (Below w.heap.size w w) := Below.refl _ _
  go_wp2_with fail
  go_at_call 16
  refine (hC.out w hb.out).mono ?_
  rintro e v0 ⟨rfl, hbn⟩
  replace hb := Lib.hid (hb.out.trans (hbn.mono hb.out.size))
  clear hbn
  go_wp2_with fail
  go_at_call 17
  refine (hW.out v0 hb.out).mono ?_
  rintro e v1 ⟨rfl, hbn⟩
  replace hb := Lib.hid (hb.out.trans (hbn.mono hb.out.size))
  clear hbn
  go_wp2_with fail
  go_at_call 18
  refine (hB.out v1 hb.out).mono ?_
  rintro e v2 ⟨rfl, hbn⟩
  replace hb := Lib.hid (hb.out.trans (hbn.mono hb.out.size))
  clear hbn
  go_wp2_with fail
  go_at_call 11
  refine (hV.out v2 hb.out).mono ?_
  rintro e v3 ⟨rfl, hbn⟩
  replace hb := Lib.hid (hb.out.trans (hbn.mono hb.out.size))
  clear hbn
  go_wp2_with fail
  go_at_call 11
  refine (hV.out v3 hb.out).mono ?_
  rintro e v4 ⟨rfl, hbn⟩
  replace hb := Lib.hid (hb.out.trans (hbn.mono hb.out.size))
  clear hbn
  go_wp2_with fail
  go_at_call 9
  refine (hK.out v4 hb.out).mono ?_
  rintro e v5 ⟨rfl, hbn⟩
  replace hb := Lib.hid (hb.out.trans (hbn.mono hb.out.size))
  clear hbn
  go_wp2_with fail
  go_ret
  exact ⟨rfl, hb.out⟩
set_option maxRecDepth 100000 in
set_option maxHeartbeats 4000000 in
theorem pc_alo (A : Option Addr) (l : List Ent) (c : Nat) (p q : Int) (w : World) (hG : FI w A l c) (hf : fewP l) (hT : TabOK w) (hv : okF l) (h1 : p < 0) : Calls Tryd.prog 5 #[.slice A l.length c, .int .i64 p, .int .i64 q] w fun e w' => e = .returned (.bool true) ∧ Below w.heap.size w w' := by
  have hF := hG.few hf
  have hl7 : l.length ≤ 7 := hf.2
  have hfe := Lib.hid (lfew A l c w hG)
  rw [fewB_yes hf] at hfe
  have hK : Hid (∀ W, Below w.heap.size w W → Calls Tryd.prog 9 #[] W fun e w' => e = .returned (.bool true) ∧ Below W.heap.size W w') := fun W h => known_43 W (hT.next h)
  have hbP : badP l p q := Or.inr (Or.inl (by omega))
  have hbB : badB l p := Or.inr (Or.inl (by omega))
  have hC : Hid (∀ W, Below w.heap.size w W → Calls Tryd.prog 16 #[.slice A l.length c, .int .i64 p, .int .i64 q] W fun e w' => e = .returned (.tuple #[.int .i64 (0), .int .i64 (2)]) ∧ Below W.heap.size W w') := fun W h => pCost_bad A l c p q W (hF.next h) hbP
  have hW : Hid (∀ W, Below w.heap.size w W → Calls Tryd.prog 17 #[.slice A l.length c, .int .i64 p, .int .i64 q] W fun e w' => e = .returned (.tuple #[.int .i64 (0), .int .i64 (2)]) ∧ Below W.heap.size W w') := fun W h => pColors_bad A l c p q W (hF.next h) hbP
  have hB : Hid (∀ W, Below w.heap.size w W → Calls Tryd.prog 18 #[.slice A l.length c, .int .i64 p] W fun e w' => e = .returned (.tuple #[.int .i64 (0), .int .i64 (2)]) ∧ Below W.heap.size W w') := fun W h => pBye_bad A l c p W (hF.next h) hbB
  have hV : Hid (∀ W, Below w.heap.size w W → Calls Tryd.prog 11 #[.slice A l.length c] W fun e w' => e = .returned (.bool true) ∧ Below W.heap.size W w') := fun W h => fB_true hv ▸ (hF.next h).lvalid
  clear hF hf hG hT
  go_enter Tryd.func5, Tryd.ntmps5
  go_wp2_with fail
  go_at_call 12
  refine hfe.out.mono ?_
  rintro e w0 ⟨rfl, rfl⟩
  have hb : Hid (Below w.heap.size w w) := Below.refl _ _
  go_wp2_with fail
  go_at_call 16
  refine (hC.out w hb.out).mono ?_
  rintro e v0 ⟨rfl, hbn⟩
  replace hb := Lib.hid (hb.out.trans (hbn.mono hb.out.size))
  clear hbn
  go_wp2_with fail
  go_at_call 17
  refine (hW.out v0 hb.out).mono ?_
  rintro e v1 ⟨rfl, hbn⟩
  replace hb := Lib.hid (hb.out.trans (hbn.mono hb.out.size))
  clear hbn
  go_wp2_with fail
  go_at_call 18
  refine (hB.out v1 hb.out).mono ?_
  rintro e v2 ⟨rfl, hbn⟩
  replace hb := Lib.hid (hb.out.trans (hbn.mono hb.out.size))
  clear hbn
  go_wp2_with fail
  go_at_call 11
  refine (hV.out v2 hb.out).mono ?_
  rintro e v3 ⟨rfl, hbn⟩
  replace hb := Lib.hid (hb.out.trans (hbn.mono hb.out.size))
  clear hbn
  go_wp2_with fail
  go_at_call 11
  refine (hV.out v3 hb.out).mono ?_
  rintro e v4 ⟨rfl, hbn⟩
  replace hb := Lib.hid (hb.out.trans (hbn.mono hb.out.size))
  clear hbn
  go_wp2_with fail
  go_at_call 9
  refine (hK.out v4 hb.out).mono ?_
  rintro e v5 ⟨rfl, hbn⟩
  replace hb := Lib.hid (hb.out.trans (hbn.mono hb.out.size))
  clear hbn
  go_wp2_with fail
  go_ret
  exact ⟨rfl, hb.out⟩
set_option maxRecDepth 100000 in
set_option maxHeartbeats 4000000 in
theorem pc_ahi1 (A : Option Addr) (l : List Ent) (c : Nat) (p q : Int) (w : World) (hG : FI w A l c) (hf : fewP l) (hT : TabOK w) (hv : okF l) (h1 : (l.length : Int) ≤ p) (h2 : q < 0) : Calls Tryd.prog 5 #[.slice A l.length c, .int .i64 p, .int .i64 q] w fun e w' => e = .returned (.bool true) ∧ Below w.heap.size w w' := by
  have hF := hG.few hf
  have hl7 : l.length ≤ 7 := hf.2
  have hfe := Lib.hid (lfew A l c w hG)
  rw [fewB_yes hf] at hfe
  have hK : Hid (∀ W, Below w.heap.size w W → Calls Tryd.prog 9 #[] W fun e w' => e = .returned (.bool true) ∧ Below W.heap.size W w') := fun W h => known_43 W (hT.next h)
  have hbP : badP l p q := Or.inr (Or.inl (by omega))
  have hbB : badB l p := Or.inr (Or.inl (by omega))
  have hC : Hid (∀ W, Below w.heap.size w W → Calls Tryd.prog 16 #[.slice A l.length c, .int .i64 p, .int .i64 q] W fun e w' => e = .returned (.tuple #[.int .i64 (0), .int .i64 (2)]) ∧ Below W.heap.size W w') := fun W h => pCost_bad A l c p q W (hF.next h) hbP
  have hW : Hid (∀ W, Below w.heap.size w W → Calls Tryd.prog 17 #[.slice A l.length c, .int .i64 p, .int .i64 q] W fun e w' => e = .returned (.tuple #[.int .i64 (0), .int .i64 (2)]) ∧ Below W.heap.size W w') := fun W h => pColors_bad A l c p q W (hF.next h) hbP
  have hB : Hid (∀ W, Below w.heap.size w W → Calls Tryd.prog 18 #[.slice A l.length c, .int .i64 p] W fun e w' => e = .returned (.tuple #[.int .i64 (0), .int .i64 (2)]) ∧ Below W.heap.size W w') := fun W h => pBye_bad A l c p W (hF.next h) hbB
  have hV : Hid (∀ W, Below w.heap.size w W → Calls Tryd.prog 11 #[.slice A l.length c] W fun e w' => e = .returned (.bool true) ∧ Below W.heap.size W w') := fun W h => fB_true hv ▸ (hF.next h).lvalid
  have h3 : ¬ p < 0 := by omega
  clear hF hf hG hT
  go_enter Tryd.func5, Tryd.ntmps5
  go_wp2_with fail
  go_at_call 12
  refine hfe.out.mono ?_
  rintro e w0 ⟨rfl, rfl⟩
  have hb : Hid (Below w.heap.size w w) := Below.refl _ _
  go_wp2_with fail
  go_at_call 16
  refine (hC.out w hb.out).mono ?_
  rintro e v0 ⟨rfl, hbn⟩
  replace hb := Lib.hid (hb.out.trans (hbn.mono hb.out.size))
  clear hbn
  go_wp2_with fail
  go_at_call 17
  refine (hW.out v0 hb.out).mono ?_
  rintro e v1 ⟨rfl, hbn⟩
  replace hb := Lib.hid (hb.out.trans (hbn.mono hb.out.size))
  clear hbn
  go_wp2_with fail
  go_at_call 18
  refine (hB.out v1 hb.out).mono ?_
  rintro e v2 ⟨rfl, hbn⟩
  replace hb := Lib.hid (hb.out.trans (hbn.mono hb.out.size))
  clear hbn
  go_wp2_with fail
  go_at_call 11
  refine (hV.out v2 hb.out).mono ?_
  rintro e v3 ⟨rfl, hbn⟩
  replace hb := Lib.hid (hb.out.trans (hbn.mono hb.out.size))
  clear hbn
  go_wp2_with fail
  go_at_call 11
  refine (hV.out v3 hb.out).mono ?_
  rintro e v4 ⟨rfl, hbn⟩
  replace hb := Lib.hid (hb.out.trans (hbn.mono hb.out.size))
  clear hbn
  go_wp2_with fail
  go_at_call 9
  refine (hK.out v4 hb.out).mono ?_
  rintro e v5 ⟨rfl, hbn⟩
  replace hb := Lib.hid (hb.out.trans (hbn.mono hb.out.size))
  clear hbn
  go_wp2_with fail
  go_ret
  exact ⟨rfl, hb.out⟩
set_option maxRecDepth 100000 in
set_option maxHeartbeats 4000000 in
theorem pc_ahi2 (A : Option Addr) (l : List Ent) (c : Nat) (p q : Int) (w : World) (hG : FI w A l c) (hf : fewP l) (hT : TabOK w) (hv : okF l) (h1 : (l.length : Int) ≤ p) (h2 : ¬ q < 0) : Calls Tryd.prog 5 #[.slice A l.length c, .int .i64 p, .int .i64 q] w fun e w' => e = .returned (.bool true) ∧ Below w.heap.size w w' := by
  have hF := hG.few hf
  have hl7 : l.length ≤ 7 := hf.2
  have hfe := Lib.hid (lfew A l c w hG)
  rw [fewB_yes hf] at hfe
  have hK : Hid (∀ W, Below w.heap.size w W → Calls Tryd.prog 9 #[] W fun e w' => e = .returned (.bool true) ∧ Below W.heap.size W w') := fun W h => known_43 W (hT.next h)
  have hbP : badP l p q := Or.inr (Or.inl (by omega))
  have hbB : badB l p := Or.inr (Or.inl (by omega))
  have hC : Hid (∀ W, Below w.heap.size w W → Calls Tryd.prog 16 #[.slice A l.length c, .int .i64 p, .int .i64 q] W fun e w' => e = .returned (.tuple #[.int .i64 (0), .int .i64 (2)]) ∧ Below W.heap.size W w') := fun W h => pCost_bad A l c p q W (hF.next h) hbP
  have hW : Hid (∀ W, Below w.heap.size w W → Calls Tryd.prog 17 #[.slice A l.length c, .int .i64 p, .int .i64 q] W fun e w' => e = .returned (.tuple #[.int .i64 (0), .int .i64 (2)]) ∧ Below W.heap.size W w') := fun W h => pColors_bad A l c p q W (hF.next h) hbP
  have hB : Hid (∀ W, Below w.heap.size w W → Calls Tryd.prog 18 #[.slice A l.length c, .int .i64 p] W fun e w' => e = .returned (.tuple #[.int .i64 (0), .int .i64 (2)]) ∧ Below W.heap.size W w') := fun W h => pBye_bad A l c p W (hF.next h) hbB
  have hV : Hid (∀ W, Below w.heap.size w W → Calls Tryd.prog 11 #[.slice A l.length c] W fun e w' => e = .returned (.bool true) ∧ Below W.heap.size W w') := fun W h => fB_true hv ▸ (hF.next h).lvalid
  have h3 : ¬ p < 0 := by omega
  clear hF hf hG hT
  go_enter Tryd.func5, Tryd.ntmps5
  go_wp2_with fail
  go_at_call 12
  refine hfe.out.mono ?_
  rintro e w0 ⟨rfl, rfl⟩
  have hb : Hid (Below w.heap.size w w) := Below.refl _ _
  go_wp2_with fail
  go_at_call 16
  refine (hC.out w hb.out).mono ?_
  rintro e v0 ⟨rfl, hbn⟩
  replace hb := Lib.hid (hb.out.trans (hbn.mono hb.out.size))
  clear hbn
  go_wp2_with fail
  go_at_call 17
  refine (hW.out v0 hb.out).mono ?_
  rintro e v1 ⟨rfl, hbn⟩
  replace hb := Lib.hid (hb.out.trans (hbn.mono hb.out.size))
  clear hbn
  go_wp2_with fail
  go_at_call 18
  refine (hB.out v1 hb.out).mono ?_
  rintro e v2 ⟨rfl, hbn⟩
  replace hb := Lib.hid (hb.out.trans (hbn.mono hb.out.size))
  clear hbn
  go_wp2_with fail
  go_at_call 11
  refine (hV.out v2 hb.out).mono ?_
  rintro e v3 ⟨rfl, hbn⟩
  replace hb := Lib.hid (hb.out.trans (hbn.mono hb.out.size))
  clear hbn
  go_wp2_with fail
  go_at_call 11
  refine (hV.out v3 hb.out).mono ?_
  rintro e v4 ⟨rfl, hbn⟩
  replace hb := Lib.hid (hb.out.trans (hbn.mono hb.out.size))
  clear hbn
  go_wp2_with fail
  go_at_call 9
  refine (hK.out v4 hb.out).mono ?_
  rintro e v5 ⟨rfl, hbn⟩
  replace hb := Lib.hid (hb.out.trans (hbn.mono hb.out.size))
  clear hbn
  go_wp2_with fail
  go_ret
  exact ⟨rfl, hb.out⟩
set_option maxRecDepth 100000 in
set_option maxHeartbeats 4000000 in
theorem pc_even_blo (A : Option Addr) (l : List Ent) (c : Nat) (p q : Int) (w : World) (hG : FI w A l c) (hf : fewP l) (hT : TabOK w) (hv : okF l) (h1 : ¬ p < 0) (h2 : ¬ (l.length : Int) ≤ p) (hpar : l.length % 2 = 0) (h5 : q < 0) : Calls Tryd.prog 5 #[.slice A l.length c, .int .i64 p, .int .i64 q] w fun e w' => e = .returned (.bool true) ∧ Below w.heap.size w w' := by
  have hF := hG.few hf
  have hl7 : l.length ≤ 7 := hf.2
  have hfe := Lib.hid (lfew A l c w hG)
  rw [fewB_yes hf] at hfe
  have hK : Hid (∀ W, Below w.heap.size w W → Calls Tryd.prog 9 #[] W fun e w' => e = .returned (.bool true) ∧ Below W.heap.size W w') := fun W h => known_43 W (hT.next h)
  have ht := tmod_two l.length
  have hw0 : IntKind.i64.wrap ((l.length % 2 : Nat) : Int) = ((l.length % 2 : Nat) : Int) := IntWalk.i64_in _ (by omega)
  rw [hpar] at ht hw0
  have hbB : badB l p := Or.inr (Or.inr hpar)
  have hbP : badP l p q := Or.inr (Or.inr (Or.inl (by omega)))
  have hC : Hid (∀ W, Below w.heap.size w W → Calls Tryd.prog 16 #[.slice A l.length c, .int .i64 p, .int .i64 q] W fun e w' => e = .returned (.tuple #[.int .i64 (0), .int .i64 (2)]) ∧ Below W.heap.size W w') := fun W h => pCost_bad A l c p q W (hF.next h) hbP
  have hW : Hid (∀ W, Below w.heap.size w W → Calls Tryd.prog 17 #[.slice A l.length c, .int .i64 p, .int .i64 q] W fun e w' => e = .returned (.tuple #[.int .i64 (0), .int .i64 (2)]) ∧ Below W.heap.size W w') := fun W h => pColors_bad A l c p q W (hF.next h) hbP
  have hB : Hid (∀ W, Below w.heap.size w W → Calls Tryd.prog 18 #[.slice A l.length c, .int .i64 p] W fun e w' => e = .returned (.tuple #[.int .i64 (0), .int .i64 (2)]) ∧ Below W.heap.size W w') := fun W h => pBye_bad A l c p W (hF.next h) hbB
  have hV : Hid (∀ W, Below w.heap.size w W → Calls Tryd.prog 11 #[.slice A l.length c] W fun e w' => e = .returned (.bool true) ∧ Below W.heap.size W w') := fun W h => fB_true hv ▸ (hF.next h).lvalid
  clear hF hf hG hT
  go_enter Tryd.func5, Tryd.ntmps5
  go_wp2_with fail
  go_at_call 12
  refine hfe.out.mono ?_
  rintro e w0 ⟨rfl, rfl⟩
  have hb : Hid (Below w.heap.size w w) := Below.refl _ _
  go_wp2_with fail
  go_at_call 16
  refine (hC.out w hb.out).mono ?_
  rintro e v0 ⟨rfl, hbn⟩
  replace hb := Lib.hid (hb.out.trans (hbn.mono hb.out.size))
  clear hbn
  go_wp2_with fail
  go_at_call 17
  refine (hW.out v0 hb.out).mono ?_
  rintro e v1 ⟨rfl, hbn⟩
  replace hb := Lib.hid (hb.out.trans (hbn.mono hb.out.size))
  clear hbn
  go_wp2_with fail
  go_at_call 18
  refine (hB.out v1 hb.out).mono ?_
  rintro e v2 ⟨rfl, hbn⟩
  replace hb := Lib.hid (hb.out.trans (hbn.mono hb.out.size))
  clear hbn
  go_wp2_with fail
  go_at_call 11
  refine (hV.out v2 hb.out).mono ?_
  rintro e v3 ⟨rfl, hbn⟩
  replace hb := Lib.hid (hb.out.trans (hbn.mono hb.out.size))
  clear hbn
  go_wp2_with fail
  go_at_call 11
  refine (hV.out v3 hb.out).mono ?_
  rintro e v4 ⟨rfl, hbn⟩
  replace hb := Lib.hid (hb.out.trans (hbn.mono hb.out.size))
  clear hbn
  go_wp2_with fail
  go_at_call 9
  refine (hK.out v4 hb.out).mono ?_
  rintro e v5 ⟨rfl, hbn⟩
  replace hb := Lib.hid (hb.out.trans (hbn.mono hb.out.size))
  clear hbn
  go_wp2_with fail
  go_ret
  exact ⟨rfl, hb.out⟩
set_option maxRecDepth 100000 in
set_option maxHeartbeats 4000000 in
theorem pc_even_bhi (A : Option Addr) (l : List Ent) (c : Nat) (p q : Int) (w : World) (hG : FI w A l c) (hf : fewP l) (hT : TabOK w) (hv : okF l) (h1 : ¬ p < 0) (h2 : ¬ (l.length : Int) ≤ p) (hpar : l.length % 2 = 0) (h5 : ¬ q < 0) (h6 : (l.length : Int) ≤ q) : Calls Tryd.prog 5 #[.slice A l.length c, .int .i64 p, .int .i64 q] w fun e w' => e = .returned (.bool true) ∧ Below w.heap.size w w' := by
  have hF := hG.few hf
  have hl7 : l.length ≤ 7 := hf.2
  have hfe := Lib.hid (lfew A l c w hG)
  rw [fewB_yes hf] at hfe
  have hK : Hid (∀ W, Below w.heap.size w W → Calls Tryd.prog 9 #[] W fun e w' => e = .returned (.bool true) ∧ Below W.heap.size W w') := fun W h => known_43 W (hT.next h)
  have ht := tmod_two l.length
  have hw0 : IntKind.i64.wrap ((l.length % 2 : Nat) : Int) = ((l.length % 2 : Nat) : Int) := IntWalk.i64_in _ (by omega)
  rw [hpar] at ht hw0
  have hbB : badB l p := Or.inr (Or.inr hpar)
  have hbP : badP l p q := Or.inr (Or.inr (Or.inl (by omega)))
  have hC : Hid (∀ W, Below w.heap.size w W → Calls Tryd.prog 16 #[.slice A l.length c, .int .i64 p, .int .i64 q] W fun e w' => e = .returned (.tuple #[.int .i64 (0), .int .i64 (2)]) ∧ Below W.heap.size W w') := fun W h => pCost_bad A l c p q W (hF.next h) hbP
  have hW : Hid (∀ W, Below w.heap.size w W → Calls Tryd.prog 17 #[.slice A l.length c, .int .i64 p, .int .i64 q] W fun e w' => e = .returned (.tuple #[.int .i64 (0), .int .i64 (2)]) ∧ Below W.heap.size W w') := fun W h => pColors_bad A l c p q W (hF.next h) hbP
  have hB : Hid (∀ W, Below w.heap.size w W → Calls Tryd.prog 18 #[.slice A l.length c, .int .i64 p] W fun e w' => e = .returned (.tuple #[.int .i64 (0), .int .i64 (2)]) ∧ Below W.heap.size W w') := fun W h => pBye_bad A l c p W (hF.next h) hbB
  have hV : Hid (∀ W, Below w.heap.size w W → Calls Tryd.prog 11 #[.slice A l.length c] W fun e w' => e = .returned (.bool true) ∧ Below W.heap.size W w') := fun W h => fB_true hv ▸ (hF.next h).lvalid
  clear hF hf hG hT
  go_enter Tryd.func5, Tryd.ntmps5
  go_wp2_with fail
  go_at_call 12
  refine hfe.out.mono ?_
  rintro e w0 ⟨rfl, rfl⟩
  have hb : Hid (Below w.heap.size w w) := Below.refl _ _
  go_wp2_with fail
  go_at_call 16
  refine (hC.out w hb.out).mono ?_
  rintro e v0 ⟨rfl, hbn⟩
  replace hb := Lib.hid (hb.out.trans (hbn.mono hb.out.size))
  clear hbn
  go_wp2_with fail
  go_at_call 17
  refine (hW.out v0 hb.out).mono ?_
  rintro e v1 ⟨rfl, hbn⟩
  replace hb := Lib.hid (hb.out.trans (hbn.mono hb.out.size))
  clear hbn
  go_wp2_with fail
  go_at_call 18
  refine (hB.out v1 hb.out).mono ?_
  rintro e v2 ⟨rfl, hbn⟩
  replace hb := Lib.hid (hb.out.trans (hbn.mono hb.out.size))
  clear hbn
  go_wp2_with fail
  go_at_call 11
  refine (hV.out v2 hb.out).mono ?_
  rintro e v3 ⟨rfl, hbn⟩
  replace hb := Lib.hid (hb.out.trans (hbn.mono hb.out.size))
  clear hbn
  go_wp2_with fail
  go_at_call 11
  refine (hV.out v3 hb.out).mono ?_
  rintro e v4 ⟨rfl, hbn⟩
  replace hb := Lib.hid (hb.out.trans (hbn.mono hb.out.size))
  clear hbn
  go_wp2_with fail
  go_at_call 9
  refine (hK.out v4 hb.out).mono ?_
  rintro e v5 ⟨rfl, hbn⟩
  replace hb := Lib.hid (hb.out.trans (hbn.mono hb.out.size))
  clear hbn
  go_wp2_with fail
  go_ret
  exact ⟨rfl, hb.out⟩
set_option maxRecDepth 100000 in
set_option maxHeartbeats 4000000 in
theorem pc_even_eq (A : Option Addr) (l : List Ent) (c : Nat) (p q : Int) (w : World) (hG : FI w A l c) (hf : fewP l) (hT : TabOK w) (hv : okF l) (h1 : ¬ p < 0) (h2 : ¬ (l.length : Int) ≤ p) (hpar : l.length % 2 = 0) (h5 : ¬ q < 0) (h6 : ¬ (l.length : Int) ≤ q) (h7 : p = q) : Calls Tryd.prog 5 #[.slice A l.length c, .int .i64 p, .int .i64 q] w fun e w' => e = .returned (.bool true) ∧ Below w.heap.size w w' := by
  have hF := hG.few hf
  have hl7 : l.length ≤ 7 := hf.2
  have hfe := Lib.hid (lfew A l c w hG)
  rw [fewB_yes hf] at hfe
  have hK : Hid (∀ W, Below w.heap.size w W → Calls Tryd.prog 9 #[] W fun e w' => e = .returned (.bool true) ∧ Below W.heap.size W w') := fun W h => known_43 W (hT.next h)
  have ht := tmod_two l.length
  have hw0 : IntKind.i64.wrap ((l.length % 2 : Nat) : Int) = ((l.length % 2 : Nat) : Int) := IntWalk.i64_in _ (by omega)
  rw [hpar] at ht hw0
  have hbB : badB l p := Or.inr (Or.inr hpar)
  have hbP : badP l p q := Or.inr (Or.inr (Or.inr h7))
  have hC : Hid (∀ W, Below w.heap.size w W → Calls Tryd.prog 16 #[.slice A l.length c, .int .i64 p, .int .i64 q] W fun e w' => e = .returned (.tuple #[.int .i64 (0), .int .i64 (2)]) ∧ Below W.heap.size W w') := fun W h => pCost_bad A l c p q W (hF.next h) hbP
  have hW : Hid (∀ W, Below w.heap.size w W → Calls Tryd.prog 17 #[.slice A l.length c, .int .i64 p, .int .i64 q] W fun e w' => e = .returned (.tuple #[.int .i64 (0), .int .i64 (2)]) ∧ Below W.heap.size W w') := fun W h => pColors_bad A l c p q W (hF.next h) hbP
  have hB : Hid (∀ W, Below w.heap.size w W → Calls Tryd.prog 18 #[.slice A l.length c, .int .i64 p] W fun e w' => e = .returned (.tuple #[.int .i64 (0), .int .i64 (2)]) ∧ Below W.heap.size W w') := fun W h => pBye_bad A l c p W (hF.next h) hbB
  have hV : Hid (∀ W, Below w.heap.size w W → Calls Tryd.prog 11 #[.slice A l.length c] W fun e w' => e = .returned (.bool true) ∧ Below W.heap.size W w') := fun W h => fB_true hv ▸ (hF.next h).lvalid
  have h8 : (p == q) = true := by rw [beq_iff_eq]; exact h7
  clear hF hf hG hT h7
  go_enter Tryd.func5, Tryd.ntmps5
  go_wp2_with fail
  go_at_call 12
  refine hfe.out.mono ?_
  rintro e w0 ⟨rfl, rfl⟩
  have hb : Hid (Below w.heap.size w w) := Below.refl _ _
  go_wp2_with fail
  go_at_call 16
  refine (hC.out w hb.out).mono ?_
  rintro e v0 ⟨rfl, hbn⟩
  replace hb := Lib.hid (hb.out.trans (hbn.mono hb.out.size))
  clear hbn
  go_wp2_with fail
  go_at_call 17
  refine (hW.out v0 hb.out).mono ?_
  rintro e v1 ⟨rfl, hbn⟩
  replace hb := Lib.hid (hb.out.trans (hbn.mono hb.out.size))
  clear hbn
  go_wp2_with fail
  go_at_call 18
  refine (hB.out v1 hb.out).mono ?_
  rintro e v2 ⟨rfl, hbn⟩
  replace hb := Lib.hid (hb.out.trans (hbn.mono hb.out.size))
  clear hbn
  go_wp2_with fail
  go_at_call 11
  refine (hV.out v2 hb.out).mono ?_
  rintro e v3 ⟨rfl, hbn⟩
  replace hb := Lib.hid (hb.out.trans (hbn.mono hb.out.size))
  clear hbn
  go_wp2_with fail
  go_at_call 11
  refine (hV.out v3 hb.out).mono ?_
  rintro e v4 ⟨rfl, hbn⟩
  replace hb := Lib.hid (hb.out.trans (hbn.mono hb.out.size))
  clear hbn
  go_wp2_with fail
  go_at_call 9
  refine (hK.out v4 hb.out).mono ?_
  rintro e v5 ⟨rfl, hbn⟩
  replace hb := Lib.hid (hb.out.trans (hbn.mono hb.out.size))
  clear hbn
  go_wp2_with fail
  go_ret
  exact ⟨rfl, hb.out⟩
set_option maxRecDepth 100000 in
set_option maxHeartbeats 4000000 in
theorem pc_even_met (A : Option Addr) (l : List Ent) (c : Nat) (p q : Int) (w : World) (hG : FI w A l c) (hf : fewP l) (hT : TabOK w) (hv : okF l) (h1 : ¬ p < 0) (h2 : ¬ (l.length : Int) ≤ p) (hpar : l.length % 2 = 0) (h5 : ¬ q < 0) (h6 : ¬ (l.length : Int) ≤ q) (h7 : p ≠ q) (a b : Nat) (hab : a < b) (hbl : b < l.length) (hmn : min p q = (a : Int)) (hmx : max p q = (b : Int)) (x y : Ent) (hx : l[a]? = some x) (hy : l[b]? = some y) (hmet : memI x.met b = true) : Calls Tryd.prog 5 #[.slice A l.length c, .int .i64 p, .int .i64 q] w fun e w' => e = .returned (.bool true) ∧ Below w.heap.size w w' := by
  have hF := hG.few hf
  have hl7 : l.length ≤ 7 := hf.2
  have hfe := Lib.hid (lfew A l c w hG)
  rw [fewB_yes hf] at hfe
  have hK : Hid (∀ W, Below w.heap.size w W → Calls Tryd.prog 9 #[] W fun e w' => e = .returned (.bool true) ∧ Below W.heap.size W w') := fun W h => known_43 W (hT.next h)
  have ht := tmod_two l.length
  have hw0 : IntKind.i64.wrap ((l.length % 2 : Nat) : Int) = ((l.length % 2 : Nat) : Int) := IntWalk.i64_in _ (by omega)
  rw [hpar] at ht hw0
  have hbB : badB l p := Or.inr (Or.inr hpar)
  have hcm : cst l a b = -1 := by rw [cst_pair hx hy]; exact (pairC_met hv hx hy).2 hmet
  have hC : Hid (∀ W, Below w.heap.size w W → Calls Tryd.prog 16 #[.slice A l.length c, .int .i64 p, .int .i64 q] W fun e w' => e = .returned (.tuple #[.int .i64 (0), .int .i64 (9)]) ∧ Below W.heap.size W w') := fun W h => pCost_met A l c p q a b W (hF.next h) hv hab hbl hmn hmx hcm
  have hW : Hid (∀ W, Below w.heap.size w W → Calls Tryd.prog 17 #[.slice A l.length c, .int .i64 p, .int .i64 q] W fun e w' => e = .returned (.tuple #[.int .i64 (0), .int .i64 (9)]) ∧ Below W.heap.size W w') := fun W h => pColors_met A l c p q a b W (hF.next h) hv hab hbl hmn hmx hcm
  have hLP : Hid (∀ W, Below w.heap.size w W → Calls Tryd.prog 20 #[.slice A l.length c, .int .i64 (a : Int), .int .i64 (b : Int)] W fun e w' => e = .returned (.tuple #[.int .i64 (0), .int .i64 (-1)]) ∧ Below W.heap.size W w') := fun W h => lpair_met A l c a b x W (hF.next h) hx hmet
  have hB : Hid (∀ W, Below w.heap.size w W → Calls Tryd.prog 18 #[.slice A l.length c, .int .i64 p] W fun e w' => e = .returned (.tuple #[.int .i64 (0), .int .i64 (2)]) ∧ Below W.heap.size W w') := fun W h => pBye_bad A l c p W (hF.next h) hbB
  have hV : Hid (∀ W, Below w.heap.size w W → Calls Tryd.prog 11 #[.slice A l.length c] W fun e w' => e = .returned (.bool true) ∧ Below W.heap.size W w') := fun W h => fB_true hv ▸ (hF.next h).lvalid
  have h8 : (p == q) = false := by rw [beq_eq_false_iff_ne]; exact h7
  clear hF hf hG hT h7 hcm
  go_enter Tryd.func5, Tryd.ntmps5
  go_wp2_with fail
  go_at_call 12
  refine hfe.out.mono ?_
  rintro e w0 ⟨rfl, rfl⟩
  have hb : Hid (Below w.heap.size w w) := Below.refl _ _
  go_wp2_with fail
  go_at_call 16
  refine (hC.out w hb.out).mono ?_
  rintro e v0 ⟨rfl, hbn⟩
  replace hb := Lib.hid (hb.out.trans (hbn.mono hb.out.size))
  clear hbn
  go_wp2_with fail
  go_at_call 17
  refine (hW.out v0 hb.out).mono ?_
  rintro e v1 ⟨rfl, hbn⟩
  replace hb := Lib.hid (hb.out.trans (hbn.mono hb.out.size))
  clear hbn
  go_wp2_with fail
  go_at_call 18
  refine (hB.out v1 hb.out).mono ?_
  rintro e v2 ⟨rfl, hbn⟩
  replace hb := Lib.hid (hb.out.trans (hbn.mono hb.out.size))
  clear hbn
  go_wp2_with fail
  go_at_call 11
  refine (hV.out v2 hb.out).mono ?_
  rintro e v3 ⟨rfl, hbn⟩
  replace hb := Lib.hid (hb.out.trans (hbn.mono hb.out.size))
  clear hbn
  go_wp2_with fail
  go_at_call 11
  refine (hV.out v3 hb.out).mono ?_
  rintro e v4 ⟨rfl, hbn⟩
  replace hb := Lib.hid (hb.out.trans (hbn.mono hb.out.size))
  clear hbn
  go_wp2_with fail
  go_at_call 20
  refine (hLP.out v4 hb.out).mono ?_
  rintro e v5 ⟨rfl, hbn⟩
  replace hb := Lib.hid (hb.out.trans (hbn.mono hb.out.size))
  clear hbn
  go_wp2_with fail
  go_at_call 9
  refine (hK.out v5 hb.out).mono ?_
  rintro e v6 ⟨rfl, hbn⟩
  replace hb := Lib.hid (hb.out.trans (hbn.mono hb.out.size))
  clear hbn
  go_wp2_with fail
  go_ret
  exact ⟨rfl, hb.out⟩
set_option maxRecDepth 100000 in
set_option maxHeartbeats 4000000 in
theorem pc_even_ok (A : Option Addr) (l : List Ent) (c : Nat) (p q : Int) (w : World) (hG : FI w A l c) (hf : fewP l) (hT : TabOK w) (hv : okF l) (h1 : ¬ p < 0) (h2 : ¬ (l.length : Int) ≤ p) (hpar : l.length % 2 = 0) (h5 : ¬ q < 0) (h6 : ¬ (l.length : Int) ≤ q) (h7 : p ≠ q) (a b : Nat) (hab : a < b) (hbl : b < l.length) (hmn : min p q = (a : Int)) (hmx : max p q = (b : Int)) (x y : Ent) (hx : l[a]? = some x) (hy : l[b]? = some y) (hmet : memI x.met b = false) : Calls Tryd.prog 5 #[.slice A l.length c, .int .i64 p, .int .i64 q] w fun e w' => e = .returned (.bool true) ∧ Below w.heap.size w w' := by
  have hF := hG.few hf
  have hl7 : l.length ≤ 7 := hf.2
  have hfe := Lib.hid (lfew A l c w hG)
  rw [fewB_yes hf] at hfe
  have hK : Hid (∀ W, Below w.heap.size w W → Calls Tryd.prog 9 #[] W fun e w' => e = .returned (.bool true) ∧ Below W.heap.size W w') := fun W h => known_43 W (hT.next h)
  have ht := tmod_two l.length
  have hw0 : IntKind.i64.wrap ((l.length % 2 : Nat) : Int) = ((l.length % 2 : Nat) : Int) := IntWalk.i64_in _ (by omega)
  rw [hpar] at ht hw0
  have hbB : badB l p := Or.inr (Or.inr hpar)
  have hcm : cst l a b ≠ -1 := by rw [cst_pair hx hy]; intro h; rw [(pairC_met hv hx hy).1 h] at hmet; cases hmet
  obtain ⟨KK, hKK⟩ : ∃ K, cst l a b = K := ⟨_, rfl⟩
  have hKK2 : pairC x y b = KK := by rw [← hKK, cst_pair hx hy]
  obtain ⟨VV, hVV⟩ : ∃ V, whiteI x y a b = V := ⟨_, rfl⟩
  have hK0 : 0 ≤ KK := by have := cst_bd hv.num a b; omega
  have hC : Hid (∀ W, Below w.heap.size w W → Calls Tryd.prog 16 #[.slice A l.length c, .int .i64 p, .int .i64 q] W fun e w' => e = .returned (.tuple #[.int .i64 KK, .int .i64 (0)]) ∧ Below W.heap.size W w') := fun W h => hKK ▸ pCost_ok A l c p q a b W (hF.next h) hv hab hbl hmn hmx hcm
  have hW : Hid (∀ W, Below w.heap.size w W → Calls Tryd.prog 17 #[.slice A l.length c, .int .i64 p, .int .i64 q] W fun e w' => e = .returned (.tuple #[.int .i64 VV, .int .i64 (0)]) ∧ Below W.heap.size W w') := fun W h => hVV ▸ pColors_ok A l c p q a b x y W (hF.next h) hv hx hy hab hmn hmx hcm
  have hLP : Hid (∀ W, Below w.heap.size w W → Calls Tryd.prog 20 #[.slice A l.length c, .int .i64 (a : Int), .int .i64 (b : Int)] W fun e w' => e = .returned (.tuple #[.int .i64 VV, .int .i64 KK]) ∧ Below W.heap.size W w') := fun W h => hVV ▸ hKK2 ▸ lpair_two A l c a b x y W (hF.next h) hx hy (hv.num x (List.mem_of_getElem? hx)) (hv.num y (List.mem_of_getElem? hy)) hmet
  have hB : Hid (∀ W, Below w.heap.size w W → Calls Tryd.prog 18 #[.slice A l.length c, .int .i64 p] W fun e w' => e = .returned (.tuple #[.int .i64 (0), .int .i64 (2)]) ∧ Below W.heap.size W w') := fun W h => pBye_bad A l c p W (hF.next h) hbB
  have hV : Hid (∀ W, Below w.heap.size w W → Calls Tryd.prog 11 #[.slice A l.length c] W fun e w' => e = .returned (.bool true) ∧ Below W.heap.size W w') := fun W h => fB_true hv ▸ (hF.next h).lvalid
  have h8 : (p == q) = false := by rw [beq_eq_false_iff_ne]; exact h7
  have hk1 : ¬ KK < 0 := by omega
  have hk2 : (KK == KK) = true := beq_self_eq_true _
  have hk3 : (VV == VV) = true := beq_self_eq_true _
  clear hF hf hG hT h7 hKK hKK2 hVV hcm
  go_enter Tryd.func5, Tryd.ntmps5
  go_wp2_with fail
  go_at_call 12
  refine hfe.out.mono ?_
  rintro e w0 ⟨rfl, rfl⟩
  have hb : Hid (Below w.heap.size w w) := Below.refl _ _
  go_wp2_with fail
  go_at_call 16
  refine (hC.out w hb.out).mono ?_
  rintro e v0 ⟨rfl, hbn⟩
  replace hb := Lib.hid (hb.out.trans (hbn.mono hb.out.size))
  clear hbn
  go_wp2_with fail
  go_at_call 17
  refine (hW.out v0 hb.out).mono ?_
  rintro e v1 ⟨rfl, hbn⟩
  replace hb := Lib.hid (hb.out.trans (hbn.mono hb.out.size))
  clear hbn
  go_wp2_with fail
  go_at_call 18
  refine (hB.out v1 hb.out).mono ?_
  rintro e v2 ⟨rfl, hbn⟩
  replace hb := Lib.hid (hb.out.trans (hbn.mono hb.out.size))
  clear hbn
  go_wp2_with fail
  go_at_call 11
  refine (hV.out v2 hb.out).mono ?_
  rintro e v3 ⟨rfl, hbn⟩
  replace hb := Lib.hid (hb.out.trans (hbn.mono hb.out.size))
  clear hbn
  go_wp2_with fail
  go_at_call 11
  refine (hV.out v3 hb.out).mono ?_
  rintro e v4 ⟨rfl, hbn⟩
  replace hb := Lib.hid (hb.out.trans (hbn.mono hb.out.size))
  clear hbn
  go_wp2_with fail
  go_at_call 20
  refine (hLP.out v4 hb.out).mono ?_
  rintro e v5 ⟨rfl, hbn⟩
  replace hb := Lib.hid (hb.out.trans (hbn.mono hb.out.size))
  clear hbn
  go_wp2_with fail
  go_at_call 9
  refine (hK.out v5 hb.out).mono ?_
  rintro e v6 ⟨rfl, hbn⟩
  replace hb := Lib.hid (hb.out.trans (hbn.mono hb.out.size))
  clear hbn
  go_wp2_with fail
  go_ret
  exact ⟨rfl, hb.out⟩
set_option maxRecDepth 100000 in
set_option maxHeartbeats 4000000 in
theorem pc_none_blo (A : Option Addr) (l : List Ent) (c : Nat) (p q : Int) (w : World) (hG : FI w A l c) (hf : fewP l) (hT : TabOK w) (hv : okF l) (h1 : ¬ p < 0) (h2 : ¬ (l.length : Int) ≤ p) (hodd : l.length % 2 = 1) (n : Nat) (hpn : (n : Int) = p) (z : Ent) (hz : l[n]? = some z) (hbc : byeC l z = -1) (h5 : q < 0) : Calls Tryd.prog 5 #[.slice A l.length c, .int .i64 p, .int .i64 q] w fun e w' => e = .returned (.bool true) ∧ Below w.heap.size w w' := by
  have hF := hG.few hf
  have hl7 : l.length ≤ 7 := hf.2
  have hfe := Lib.hid (lfew A l c w hG)
  rw [fewB_yes hf] at hfe
  have hK : Hid (∀ W, Below w.heap.size w W → Calls Tryd.prog 9 #[] W fun e w' => e = .returned (.bool true) ∧ Below W.heap.size W w') := fun W h => known_43 W (hT.next h)
  have ht := tmod_two l.length
  have hw0 : IntKind.i64.wrap ((l.length % 2 : Nat) : Int) = ((l.length % 2 : Nat) : Int) := IntWalk.i64_in _ (by omega)
  rw [hodd] at ht hw0
  have hbP : badP l p q := Or.inr (Or.inr (Or.inl (by omega)))
  have hC : Hid (∀ W, Below w.heap.size w W → Calls Tryd.prog 16 #[.slice A l.length c, .int .i64 p, .int .i64 q] W fun e w' => e = .returned (.tuple #[.int .i64 (0), .int .i64 (2)]) ∧ Below W.heap.size W w') := fun W h => pCost_bad A l c p q W (hF.next h) hbP
  have hW : Hid (∀ W, Below w.heap.size w W → Calls Tryd.prog 17 #[.slice A l.length c, .int .i64 p, .int .i64 q] W fun e w' => e = .returned (.tuple #[.int .i64 (0), .int .i64 (2)]) ∧ Below W.heap.size W w') := fun W h => pColors_bad A l c p q W (hF.next h) hbP
  have hB : Hid (∀ W, Below w.heap.size w W → Calls Tryd.prog 18 #[.slice A l.length c, .int .i64 p] W fun e w' => e = .returned (.tuple #[.int .i64 (0), .int .i64 (9)]) ∧ Below W.heap.size W w') := fun W h => hpn ▸ (pBye_ok A l c n z W (hF.next h) hv hz hodd).1 hbc
  have hLB : Hid (∀ W, Below w.heap.size w W → Calls Tryd.prog 19 #[.slice A l.length c, .int .i64 p] W fun e w' => e = .returned (.int .i64 (-1)) ∧ Below W.heap.size W w') := fun W h => hpn ▸ hbc ▸ (hF.next h).lbye hv hz
  have hV : Hid (∀ W, Below w.heap.size w W → Calls Tryd.prog 11 #[.slice A l.length c] W fun e w' => e = .returned (.bool true) ∧ Below W.heap.size W w') := fun W h => fB_true hv ▸ (hF.next h).lvalid
  clear hF hf hG hT hbc hz hpn hodd
  go_enter Tryd.func5, Tryd.ntmps5
  go_wp2_with fail
  go_at_call 12
  refine hfe.out.mono ?_
  rintro e w0 ⟨rfl, rfl⟩
  have hb : Hid (Below w.heap.size w w) := Below.refl _ _
  go_wp2_with fail
  go_at_call 16
  refine (hC.out w hb.out).mono ?_
  rintro e v0 ⟨rfl, hbn⟩
  replace hb := Lib.hid (hb.out.trans (hbn.mono hb.out.size))
  clear hbn
  go_wp2_with fail
  go_at_call 17
  refine (hW.out v0 hb.out).mono ?_
  rintro e v1 ⟨rfl, hbn⟩
  replace hb := Lib.hid (hb.out.trans (hbn.mono hb.out.size))
  clear hbn
  go_wp2_with fail
  go_at_call 18
  refine (hB.out v1 hb.out).mono ?_
  rintro e v2 ⟨rfl, hbn⟩
  replace hb := Lib.hid (hb.out.trans (hbn.mono hb.out.size))
  clear hbn
  go_wp2_with fail
  go_at_call 11
  refine (hV.out v2 hb.out).mono ?_
  rintro e v3 ⟨rfl, hbn⟩
  replace hb := Lib.hid (hb.out.trans (hbn.mono hb.out.size))
  clear hbn
  go_wp2_with fail
  go_at_call 19
  refine (hLB.out v3 hb.out).mono ?_
  rintro e v4 ⟨rfl, hbn⟩
  replace hb := Lib.hid (hb.out.trans (hbn.mono hb.out.size))
  clear hbn
  go_wp2_with fail
  go_at_call 11
  refine (hV.out v4 hb.out).mono ?_
  rintro e v5 ⟨rfl, hbn⟩
  replace hb := Lib.hid (hb.out.trans (hbn.mono hb.out.size))
  clear hbn
  go_wp2_with fail
  go_at_call 9
  refine (hK.out v5 hb.out).mono ?_
  rintro e v6 ⟨rfl, hbn⟩
  replace hb := Lib.hid (hb.out.trans (hbn.mono hb.out.size))
  clear hbn
  go_wp2_with fail
  go_ret
  exact ⟨rfl, hb.out⟩
set_option maxRecDepth 100000 in
set_option maxHeartbeats 4000000 in
theorem pc_none_bhi (A : Option Addr) (l : List Ent) (c : Nat) (p q : Int) (w : World) (hG : FI w A l c) (hf : fewP l) (hT : TabOK w) (hv : okF l) (h1 : ¬ p < 0) (h2 : ¬ (l.length : Int) ≤ p) (hodd : l.length % 2 = 1) (n : Nat) (hpn : (n : Int) = p) (z : Ent) (hz : l[n]? = some z) (hbc : byeC l z = -1) (h5 : ¬ q < 0) (h6 : (l.length : Int) ≤ q) : Calls Tryd.prog 5 #[.slice A l.length c, .int .i64 p, .int .i64 q] w fun e w' => e = .returned (.bool true) ∧ Below w.heap.size w w' := by
  have hF := hG.few hf
  have hl7 : l.length ≤ 7 := hf.2
  have hfe := Lib.hid (lfew A l c w hG)
  rw [fewB_yes hf] at hfe
  have hK : Hid (∀ W, Below w.heap.size w W → Calls Tryd.prog 9 #[] W fun e w' => e = .returned (.bool true) ∧ Below W.heap.size W w') := fun W h => known_43 W (hT.next h)
  have ht := tmod_two l.length
  have hw0 : IntKind.i64.wrap ((l.length % 2 : Nat) : Int) = ((l.length % 2 : Nat) : Int) := IntWalk.i64_in _ (by omega)
  rw [hodd] at ht hw0
  have hbP : badP l p q := Or.inr (Or.inr (Or.inl (by omega)))
  have hC : Hid (∀ W, Below w.heap.size w W → Calls Tryd.prog 16 #[.slice A l.length c, .int .i64 p, .int .i64 q] W fun e w' => e = .returned (.tuple #[.int .i64 (0), .int .i64 (2)]) ∧ Below W.heap.size W w') := fun W h => pCost_bad A l c p q W (hF.next h) hbP
  have hW : Hid (∀ W, Below w.heap.size w W → Calls Tryd.prog 17 #[.slice A l.length c, .int .i64 p, .int .i64 q] W fun e w' => e = .returned (.tuple #[.int .i64 (0), .int .i64 (2)]) ∧ Below W.heap.size W w') := fun W h => pColors_bad A l c p q W (hF.next h) hbP
  have hB : Hid (∀ W, Below w.heap.size w W → Calls Tryd.prog 18 #[.slice A l.length c, .int .i64 p] W fun e w' => e = .returned (.tuple #[.int .i64 (0), .int .i64 (9)]) ∧ Below W.heap.size W w') := fun W h => hpn ▸ (pBye_ok A l c n z W (hF.next h) hv hz hodd).1 hbc
  have hLB : Hid (∀ W, Below w.heap.size w W → Calls Tryd.prog 19 #[.slice A l.length c, .int .i64 p] W fun e w' => e = .returned (.int .i64 (-1)) ∧ Below W.heap.size W w') := fun W h => hpn ▸ hbc ▸ (hF.next h).lbye hv hz
  have hV : Hid (∀ W, Below w.heap.size w W → Calls Tryd.prog 11 #[.slice A l.length c] W fun e w' => e = .returned (.bool true) ∧ Below W.heap.size W w') := fun W h => fB_true hv ▸ (hF.next h).lvalid
  clear hF hf hG hT hbc hz hpn hodd
  go_enter Tryd.func5, Tryd.ntmps5
  go_wp2_with fail
  go_at_call 12
  refine hfe.out.mono ?_
  rintro e w0 ⟨rfl, rfl⟩
  have hb : Hid (Below w.heap.size w w) := Below.refl _ _
  go_wp2_with fail
  go_at_call 16
  refine (hC.out w hb.out).mono ?_
  rintro e v0 ⟨rfl, hbn⟩
  replace hb := Lib.hid (hb.out.trans (hbn.mono hb.out.size))
  clear hbn
  go_wp2_with fail
  go_at_call 17
  refine (hW.out v0 hb.out).mono ?_
  rintro e v1 ⟨rfl, hbn⟩
  replace hb := Lib.hid (hb.out.trans (hbn.mono hb.out.size))
  clear hbn
  go_wp2_with fail
  go_at_call 18
  refine (hB.out v1 hb.out).mono ?_
  rintro e v2 ⟨rfl, hbn⟩
  replace hb := Lib.hid (hb.out.trans (hbn.mono hb.out.size))
  clear hbn
  go_wp2_with fail
  go_at_call 11
  refine (hV.out v2 hb.out).mono ?_
  rintro e v3 ⟨rfl, hbn⟩
  replace hb := Lib.hid (hb.out.trans (hbn.mono hb.out.size))
  clear hbn
  go_wp2_with fail
  go_at_call 19
  refine (hLB.out v3 hb.out).mono ?_
  rintro e v4 ⟨rfl, hbn⟩
  replace hb := Lib.hid (hb.out.trans (hbn.mono hb.out.size))
  clear hbn
  go_wp2_with fail
  go_at_call 11
  refine (hV.out v4 hb.out).mono ?_
  rintro e v5 ⟨rfl, hbn⟩
  replace hb := Lib.hid (hb.out.trans (hbn.mono hb.out.size))
  clear hbn
  go_wp2_with fail
  go_at_call 9
  refine (hK.out v5 hb.out).mono ?_
  rintro e v6 ⟨rfl, hbn⟩
  replace hb := Lib.hid (hb.out.trans (hbn.mono hb.out.size))
  clear hbn
  go_wp2_with fail
  go_ret
  exact ⟨rfl, hb.out⟩
set_option maxRecDepth 100000 in
set_option maxHeartbeats 4000000 in
theorem pc_none_eq (A : Option Addr) (l : List Ent) (c : Nat) (p q : Int) (w : World) (hG : FI w A l c) (hf : fewP l) (hT : TabOK w) (hv : okF l) (h1 : ¬ p < 0) (h2 : ¬ (l.length : Int) ≤ p) (hodd : l.length % 2 = 1) (n : Nat) (hpn : (n : Int) = p) (z : Ent) (hz : l[n]? = some z) (hbc : byeC l z = -1) (h5 : ¬ q < 0) (h6 : ¬ (l.length : Int) ≤ q) (h7 : p = q) : Calls Tryd.prog 5 #[.slice A l.length c, .int .i64 p, .int .i64 q] w fun e w' => e = .returned (.bool true) ∧ Below w.heap.size w w' := by
  have hF := hG.few hf
  have hl7 : l.length ≤ 7 := hf.2
  have hfe := Lib.hid (lfew A l c w hG)
  rw [fewB_yes hf] at hfe
  have hK : Hid (∀ W, Below w.heap.size w W → Calls Tryd.prog 9 #[] W fun e w' => e = .returned (.bool true) ∧ Below W.heap.size W w') := fun W h => known_43 W (hT.next h)
  have ht := tmod_two l.length
  have hw0 : IntKind.i64.wrap ((l.length % 2 : Nat) : Int) = ((l.length % 2 : Nat) : Int) := IntWalk.i64_in _ (by omega)
  rw [hodd] at ht hw0
  have hbP : badP l p q := Or.inr (Or.inr (Or.inr h7))
  have hC : Hid (∀ W, Below w.heap.size w W → Calls Tryd.prog 16 #[.slice A l.length c, .int .i64 p, .int .i64 q] W fun e w' => e = .returned (.tuple #[.int .i64 (0), .int .i64 (2)]) ∧ Below W.heap.size W w') := fun W h => pCost_bad A l c p q W (hF.next h) hbP
  have hW : Hid (∀ W, Below w.heap.size w W → Calls Tryd.prog 17 #[.slice A l.length c, .int .i64 p, .int .i64 q] W fun e w' => e = .returned (.tuple #[.int .i64 (0), .int .i64 (2)]) ∧ Below W.heap.size W w') := fun W h => pColors_bad A l c p q W (hF.next h) hbP
  have hB : Hid (∀ W, Below w.heap.size w W → Calls Tryd.prog 18 #[.slice A l.length c, .int .i64 p] W fun e w' => e = .returned (.tuple #[.int .i64 (0), .int .i64 (9)]) ∧ Below W.heap.size W w') := fun W h => hpn ▸ (pBye_ok A l c n z W (hF.next h) hv hz hodd).1 hbc
  have hLB : Hid (∀ W, Below w.heap.size w W → Calls Tryd.prog 19 #[.slice A l.length c, .int .i64 p] W fun e w' => e = .returned (.int .i64 (-1)) ∧ Below W.heap.size W w') := fun W h => hpn ▸ hbc ▸ (hF.next h).lbye hv hz
  have hV : Hid (∀ W, Below w.heap.size w W → Calls Tryd.prog 11 #[.slice A l.length c] W fun e w' => e = .returned (.bool true) ∧ Below W.heap.size W w') := fun W h => fB_true hv ▸ (hF.next h).lvalid
  have h8 : (p == q) = true := by rw [beq_iff_eq]; exact h7
  clear hF hf hG hT hbc hz hpn hodd h7
  go_enter Tryd.func5, Tryd.ntmps5
  go_wp2_with fail
  go_at_call 12
  refine hfe.out.mono ?_
  rintro e w0 ⟨rfl, rfl⟩
  have hb : Hid (Below w.heap.size w w) := Below.refl _ _
  go_wp2_with fail
  go_at_call 16
  refine (hC.out w hb.out).mono ?_
  rintro e v0 ⟨rfl, hbn⟩
  replace hb := Lib.hid (hb.out.trans (hbn.mono hb.out.size))
  clear hbn
  go_wp2_with fail
  go_at_call 17
  refine (hW.out v0 hb.out).mono ?_
  rintro e v1 ⟨rfl, hbn⟩
  replace hb := Lib.hid (hb.out.trans (hbn.mono hb.out.size))
  clear hbn
  go_wp2_with fail
  go_at_call 18
  refine (hB.out v1 hb.out).mono ?_
  rintro e v2 ⟨rfl, hbn⟩
  replace hb := Lib.hid (hb.out.trans (hbn.mono hb.out.size))
  clear hbn
  go_wp2_with fail
  go_at_call 11
  refine (hV.out v2 hb.out).mono ?_
  rintro e v3 ⟨rfl, hbn⟩
  replace hb := Lib.hid (hb.out.trans (hbn.mono hb.out.size))
  clear hbn
  go_wp2_with fail
  go_at_call 19
  refine (hLB.out v3 hb.out).mono ?_
  rintro e v4 ⟨rfl, hbn⟩
  replace hb := Lib.hid (hb.out.trans (hbn.mono hb.out.size))
  clear hbn
  go_wp2_with fail
  go_at_call 11
  refine (hV.out v4 hb.out).mono ?_
  rintro e v5 ⟨rfl, hbn⟩
  replace hb := Lib.hid (hb.out.trans (hbn.mono hb.out.size))
  clear hbn
  go_wp2_with fail
  go_at_call 9
  refine (hK.out v5 hb.out).mono ?_
  rintro e v6 ⟨rfl, hbn⟩
  replace hb := Lib.hid (hb.out.trans (hbn.mono hb.out.size))
  clear hbn
  go_wp2_with fail
  go_ret
  exact ⟨rfl, hb.out⟩
set_option maxRecDepth 100000 in
set_option maxHeartbeats 4000000 in
theorem pc_none_met (A : Option Addr) (l : List Ent) (c : Nat) (p q : Int) (w : World) (hG : FI w A l c) (hf : fewP l) (hT : TabOK w) (hv : okF l) (h1 : ¬ p < 0) (h2 : ¬ (l.length : Int) ≤ p) (hodd : l.length % 2 = 1) (n : Nat) (hpn : (n : Int) = p) (z : Ent) (hz : l[n]? = some z) (hbc : byeC l z = -1) (h5 : ¬ q < 0) (h6 : ¬ (l.length : Int) ≤ q) (h7 : p ≠ q) (a b : Nat) (hab : a < b) (hbl : b < l.length) (hmn : min p q = (a : Int)) (hmx : max p q = (b : Int)) (x y : Ent) (hx : l[a]? = some x) (hy : l[b]? = some y) (hmet : memI x.met b = true) : Calls Tryd.prog 5 #[.slice A l.length c, .int .i64 p, .int .i64 q] w fun e w' => e = .returned (.bool true) ∧ Below w.heap.size w w' := by
  have hF := hG.few hf
  have hl7 : l.length ≤ 7 := hf.2
  have hfe := Lib.hid (lfew A l c w hG)
  rw [fewB_yes hf] at hfe
  have hK : Hid (∀ W, Below w.heap.size w W → Calls Tryd.prog 9 #[] W fun e w' => e = .returned (.bool true) ∧ Below W.heap.size W w') := fun W h => known_43 W (hT.next h)
  have ht := tmod_two l.length
  have hw0 : IntKind.i64.wrap ((l.length % 2 : Nat) : Int) = ((l.length % 2 : Nat) : Int) := IntWalk.i64_in _ (by omega)
  rw [hodd] at ht hw0
  have hcm : cst l a b = -1 := by rw [cst_pair hx hy]; exact (pairC_met hv hx hy).2 hmet
  have hC : Hid (∀ W, Below w.heap.size w W → Calls Tryd.prog 16 #[.slice A l.length c, .int .i64 p, .int .i64 q] W fun e w' => e = .returned (.tuple #[.int .i64 (0), .int .i64 (9)]) ∧ Below W.heap.size W w') := fun W h => pCost_met A l c p q a b W (hF.next h) hv hab hbl hmn hmx hcm
  have hW : Hid (∀ W, Below w.heap.size w W → Calls Tryd.prog 17 #[.slice A l.length c, .int .i64 p, .int .i64 q] W fun e w' => e = .returned (.tuple #[.int .i64 (0), .int .i64 (9)]) ∧ Below W.heap.size W w') := fun W h => pColors_met A l c p q a b W (hF.next h) hv hab hbl hmn hmx hcm
  have hLP : Hid (∀ W, Below w.heap.size w W → Calls Tryd.prog 20 #[.slice A l.length c, .int .i64 (a : Int), .int .i64 (b : Int)] W fun e w' => e = .returned (.tuple #[.int .i64 (0), .int .i64 (-1)]) ∧ Below W.heap.size W w') := fun W h => lpair_met A l c a b x W (hF.next h) hx hmet
  have hB : Hid (∀ W, Below w.heap.size w W → Calls Tryd.prog 18 #[.slice A l.length c, .int .i64 p] W fun e w' => e = .returned (.tuple #[.int .i64 (0), .int .i64 (9)]) ∧ Below W.heap.size W w') := fun W h => hpn ▸ (pBye_ok A l c n z W (hF.next h) hv hz hodd).1 hbc
  have hLB : Hid (∀ W, Below w.heap.size w W → Calls Tryd.prog 19 #[.slice A l.length c, .int .i64 p] W fun e w' => e = .returned (.int .i64 (-1)) ∧ Below W.heap.size W w') := fun W h => hpn ▸ hbc ▸ (hF.next h).lbye hv hz
  have hV : Hid (∀ W, Below w.heap.size w W → Calls Tryd.prog 11 #[.slice A l.length c] W fun e w' => e = .returned (.bool true) ∧ Below W.heap.size W w') := fun W h => fB_true hv ▸ (hF.next h).lvalid
  have h8 : (p == q) = false := by rw [beq_eq_false_iff_ne]; exact h7
  clear hF hf hG hT hbc hz hpn hodd h7 hcm
  go_enter Tryd.func5, Tryd.ntmps5
  go_wp2_with fail
  go_at_call 12
  refine hfe.out.mono ?_
  rintro e w0 ⟨rfl, rfl⟩
  have hb : Hid (Below w.heap.size w w) := Below.refl _ _
  go_wp2_with fail
  go_at_call 16
  refine (hC.out w hb.out).mono ?_
  rintro e v0 ⟨rfl, hbn⟩
  replace hb := Lib.hid (hb.out.trans (hbn.mono hb.out.size))
  clear hbn
  go_wp2_with fail
  go_at_call 17
  refine (hW.out v0 hb.out).mono ?_
  rintro e v1 ⟨rfl, hbn⟩
  replace hb := Lib.hid (hb.out.trans (hbn.mono hb.out.size))
  clear hbn
  go_wp2_with fail
  go_at_call 18
  refine (hB.out v1 hb.out).mono ?_
  rintro e v2 ⟨rfl, hbn⟩
  replace hb := Lib.hid (hb.out.trans (hbn.mono hb.out.size))
  clear hbn
  go_wp2_with fail
  go_at_call 11
  refine (hV.out v2 hb.out).mono ?_
  rintro e v3 ⟨rfl, hbn⟩
  replace hb := Lib.hid (hb.out.trans (hbn.mono hb.out.size))
  clear hbn
  go_wp2_with fail
  go_at_call 19
  refine (hLB.out v3 hb.out).mono ?_
  rintro e v4 ⟨rfl, hbn⟩
  replace hb := Lib.hid (hb.out.trans (hbn.mono hb.out.size))
  clear hbn
  go_wp2_with fail
  go_at_call 11
  refine (hV.out v4 hb.out).mono ?_
  rintro e v5 ⟨rfl, hbn⟩
  replace hb := Lib.hid (hb.out.trans (hbn.mono hb.out.size))
  clear hbn
  go_wp2_with fail
  go_at_call 20
  refine (hLP.out v5 hb.out).mono ?_
  rintro e v6 ⟨rfl, hbn⟩
  replace hb := Lib.hid (hb.out.trans (hbn.mono hb.out.size))
  clear hbn
  go_wp2_with fail
  go_at_call 9
  refine (hK.out v6 hb.out).mono ?_
  rintro e v7 ⟨rfl, hbn⟩
  replace hb := Lib.hid (hb.out.trans (hbn.mono hb.out.size))
  clear hbn
  go_wp2_with fail
  go_ret
  exact ⟨rfl, hb.out⟩
set_option maxRecDepth 100000 in
set_option maxHeartbeats 4000000 in
theorem pc_none_ok (A : Option Addr) (l : List Ent) (c : Nat) (p q : Int) (w : World) (hG : FI w A l c) (hf : fewP l) (hT : TabOK w) (hv : okF l) (h1 : ¬ p < 0) (h2 : ¬ (l.length : Int) ≤ p) (hodd : l.length % 2 = 1) (n : Nat) (hpn : (n : Int) = p) (z : Ent) (hz : l[n]? = some z) (hbc : byeC l z = -1) (h5 : ¬ q < 0) (h6 : ¬ (l.length : Int) ≤ q) (h7 : p ≠ q) (a b : Nat) (hab : a < b) (hbl : b < l.length) (hmn : min p q = (a : Int)) (hmx : max p q = (b : Int)) (x y : Ent) (hx : l[a]? = some x) (hy : l[b]? = some y) (hmet : memI x.met b = false) : Calls Tryd.prog 5 #[.slice A l.length c, .int .i64 p, .int .i64 q] w fun e w' => e = .returned (.bool true) ∧ Below w.heap.size w w' := by
  have hF := hG.few hf
  have hl7 : l.length ≤ 7 := hf.2
  have hfe := Lib.hid (lfew A l c w hG)
  rw [fewB_yes hf] at hfe
  have hK : Hid (∀ W, Below w.heap.size w W → Calls Tryd.prog 9 #[] W fun e w' => e = .returned (.bool true) ∧ Below W.heap.size W w') := fun W h => known_43 W (hT.next h)
  have ht := tmod_two l.length
  have hw0 : IntKind.i64.wrap ((l.length % 2 : Nat) : Int) = ((l.length % 2 : Nat) : Int) := IntWalk.i64_in _ (by omega)
  rw [hodd] at ht hw0
  have hcm : cst l a b ≠ -1 := by rw [cst_pair hx hy]; intro h; rw [(pairC_met hv hx hy).1 h] at hmet; cases hmet
  obtain ⟨KK, hKK⟩ : ∃ K, cst l a b = K := ⟨_, rfl⟩
  have hKK2 : pairC x y b = KK := by rw [← hKK, cst_pair hx hy]
  obtain ⟨VV, hVV⟩ : ∃ V, whiteI x y a b = V := ⟨_, rfl⟩
  have hK0 : 0 ≤ KK := by have := cst_bd hv.num a b; omega
  have hC : Hid (∀ W, Below w.heap.size w W → Calls Tryd.prog 16 #[.slice A l.length c, .int .i64 p, .int .i64 q] W fun e w' => e = .returned (.tuple #[.int .i64 KK, .int .i64 (0)]) ∧ Below W.heap.size W w') := fun W h => hKK ▸ pCost_ok A l c p q a b W (hF.next h) hv hab hbl hmn hmx hcm
  have hW : Hid (∀ W, Below w.heap.size w W → Calls Tryd.prog 17 #[.slice A l.length c, .int .i64 p, .int .i64 q] W fun e w' => e = .returned (.tuple #[.int .i64 VV, .int .i64 (0)]) ∧ Below W.heap.size W w') := fun W h => hVV ▸ pColors_ok A l c p q a b x y W (hF.next h) hv hx hy hab hmn hmx hcm
  have hLP : Hid (∀ W, Below w.heap.size w W → Calls Tryd.prog 20 #[.slice A l.length c, .int .i64 (a : Int), .int .i64 (b : Int)] W fun e w' => e = .returned (.tuple #[.int .i64 VV, .int .i64 KK]) ∧ Below W.heap.size W w') := fun W h => hVV ▸ hKK2 ▸ lpair_two A l c a b x y W (hF.next h) hx hy (hv.num x (List.mem_of_getElem? hx)) (hv.num y (List.mem_of_getElem? hy)) hmet
  have hB : Hid (∀ W, Below w.heap.size w W → Calls Tryd.prog 18 #[.slice A l.length c, .int .i64 p] W fun e w' => e = .returned (.tuple #[.int .i64 (0), .int .i64 (9)]) ∧ Below W.heap.size W w') := fun W h => hpn ▸ (pBye_ok A l c n z W (hF.next h) hv hz hodd).1 hbc
  have hLB : Hid (∀ W, Below w.heap.size w W → Calls Tryd.prog 19 #[.slice A l.length c, .int .i64 p] W fun e w' => e = .returned (.int .i64 (-1)) ∧ Below W.heap.size W w') := fun W h => hpn ▸ hbc ▸ (hF.next h).lbye hv hz
  have hV : Hid (∀ W, Below w.heap.size w W → Calls Tryd.prog 11 #[.slice A l.length c] W fun e w' => e = .returned (.bool true) ∧ Below W.heap.size W w') := fun W h => fB_true hv ▸ (hF.next h).lvalid
  have h8 : (p == q) = false := by rw [beq_eq_false_iff_ne]; exact h7
  have hk1 : ¬ KK < 0 := by omega
  have hk2 : (KK == KK) = true := beq_self_eq_true _
  have hk3 : (VV == VV) = true := beq_self_eq_true _
  clear hF hf hG hT hbc hz hpn hodd h7 hKK hKK2 hVV hcm
  go_enter Tryd.func5, Tryd.ntmps5
  go_wp2_with fail
  go_at_call 12
  refine hfe.out.mono ?_
  rintro e w0 ⟨rfl, rfl⟩
  have hb : Hid (Below w.heap.size w w) := Below.refl _ _
  go_wp2_with fail
  go_at_call 16
  refine (hC.out w hb.out).mono ?_
  rintro e v0 ⟨rfl, hbn⟩
  replace hb := Lib.hid (hb.out.trans (hbn.mono hb.out.size))
  clear hbn
  go_wp2_with fail
  go_at_call 17
  refine (hW.out v0 hb.out).mono ?_
  rintro e v1 ⟨rfl, hbn⟩
  replace hb := Lib.hid (hb.out.trans (hbn.mono hb.out.size))
  clear hbn
  go_wp2_with fail
  go_at_call 18
  refine (hB.out v1 hb.out).mono ?_
  rintro e v2 ⟨rfl, hbn⟩
  replace hb := Lib.hid (hb.out.trans (hbn.mono hb.out.size))
  clear hbn
  go_wp2_with fail
  go_at_call 11
  refine (hV.out v2 hb.out).mono ?_
  rintro e v3 ⟨rfl, hbn⟩
  replace hb := Lib.hid (hb.out.trans (hbn.mono hb.out.size))
  clear hbn
  go_wp2_with fail
  go_at_call 19
  refine (hLB.out v3 hb.out).mono ?_
  rintro e v4 ⟨rfl, hbn⟩
  replace hb := Lib.hid (hb.out.trans (hbn.mono hb.out.size))
  clear hbn
  go_wp2_with fail
  go_at_call 11
  refine (hV.out v4 hb.out).mono ?_
  rintro e v5 ⟨rfl, hbn⟩
  replace hb := Lib.hid (hb.out.trans (hbn.mono hb.out.size))
  clear hbn
  go_wp2_with fail
  go_at_call 20
  refine (hLP.out v5 hb.out).mono ?_
  rintro e v6 ⟨rfl, hbn⟩
  replace hb := Lib.hid (hb.out.trans (hbn.mono hb.out.size))
  clear hbn
  go_wp2_with fail
  go_at_call 9
  refine (hK.out v6 hb.out).mono ?_
  rintro e v7 ⟨rfl, hbn⟩
  replace hb := Lib.hid (hb.out.trans (hbn.mono hb.out.size))
  clear hbn
  go_wp2_with fail
  go_ret
  exact ⟨rfl, hb.out⟩
set_option maxRecDepth 100000 in
set_option maxHeartbeats 4000000 in
theorem pc_ok_blo (A : Option Addr) (l : List Ent) (c : Nat) (p q : Int) (w : World) (hG : FI w A l c) (hf : fewP l) (hT : TabOK w) (hv : okF l) (h1 : ¬ p < 0) (h2 : ¬ (l.length : Int) ≤ p) (hodd : l.length % 2 = 1) (n : Nat) (hpn : (n : Int) = p) (z : Ent) (hz : l[n]? = some z) (hbc : byeC l z ≠ -1) (h5 : q < 0) : Calls Tryd.prog 5 #[.slice A l.length c, .int .i64 p, .int .i64 q] w fun e w' => e = .returned (.bool true) ∧ Below w.heap.size w w' := by
  have hF := hG.few hf
  have hl7 : l.length ≤ 7 := hf.2
  have hfe := Lib.hid (lfew A l c w hG)
  rw [fewB_yes hf] at hfe
  have hK : Hid (∀ W, Below w.heap.size w W → Calls Tryd.prog 9 #[] W fun e w' => e = .returned (.bool true) ∧ Below W.heap.size W w') := fun W h => known_43 W (hT.next h)
  have ht := tmod_two l.length
  have hw0 : IntKind.i64.wrap ((l.length % 2 : Nat) : Int) = ((l.length % 2 : Nat) : Int) := IntWalk.i64_in _ (by omega)
  rw [hodd] at ht hw0
  obtain ⟨MM, hMM⟩ : ∃ M, byeC l z = M := ⟨_, rfl⟩
  have hM0 : 0 ≤ MM := by rcases byeC_bd hv (List.mem_of_getElem? hz) with h | h; exact absurd h hbc; omega
  have hbP : badP l p q := Or.inr (Or.inr (Or.inl (by omega)))
  have hC : Hid (∀ W, Below w.heap.size w W → Calls Tryd.prog 16 #[.slice A l.length c, .int .i64 p, .int .i64 q] W fun e w' => e = .returned (.tuple #[.int .i64 (0), .int .i64 (2)]) ∧ Below W.heap.size W w') := fun W h => pCost_bad A l c p q W (hF.next h) hbP
  have hW : Hid (∀ W, Below w.heap.size w W → Calls Tryd.prog 17 #[.slice A l.length c, .int .i64 p, .int .i64 q] W fun e w' => e = .returned (.tuple #[.int .i64 (0), .int .i64 (2)]) ∧ Below W.heap.size W w') := fun W h => pColors_bad A l c p q W (hF.next h) hbP
  have hB : Hid (∀ W, Below w.heap.size w W → Calls Tryd.prog 18 #[.slice A l.length c, .int .i64 p] W fun e w' => e = .returned (.tuple #[.int .i64 MM, .int .i64 (0)]) ∧ Below W.heap.size W w') := fun W h => hpn ▸ hMM ▸ (pBye_ok A l c n z W (hF.next h) hv hz hodd).2 hbc
  have hLB : Hid (∀ W, Below w.heap.size w W → Calls Tryd.prog 19 #[.slice A l.length c, .int .i64 p] W fun e w' => e = .returned (.int .i64 MM) ∧ Below W.heap.size W w') := fun W h => hpn ▸ hMM ▸ (hF.next h).lbye hv hz
  have hV : Hid (∀ W, Below w.heap.size w W → Calls Tryd.prog 11 #[.slice A l.length c] W fun e w' => e = .returned (.bool true) ∧ Below W.heap.size W w') := fun W h => fB_true hv ▸ (hF.next h).lvalid
  have hm1 : ¬ MM < 0 := by omega
  have hm2 : (MM != MM) = false := by rw [bne_eq_false_iff_eq]
  clear hF hf hG hT hMM hbc hz hpn hodd
  go_enter Tryd.func5, Tryd.ntmps5
  go_wp2_with fail
  go_at_call 12
  refine hfe.out.mono ?_
  rintro e w0 ⟨rfl, rfl⟩
  have hb : Hid (Below w.heap.size w w) := Below.refl _ _
  go_wp2_with fail
  go_at_call 16
  refine (hC.out w hb.out).mono ?_
  rintro e v0 ⟨rfl, hbn⟩
  replace hb := Lib.hid (hb.out.trans (hbn.mono hb.out.size))
  clear hbn
  go_wp2_with fail
  go_at_call 17
  refine (hW.out v0 hb.out).mono ?_
  rintro e v1 ⟨rfl, hbn⟩
  replace hb := Lib.hid (hb.out.trans (hbn.mono hb.out.size))
  clear hbn
  go_wp2_with fail
  go_at_call 18
  refine (hB.out v1 hb.out).mono ?_
  rintro e v2 ⟨rfl, hbn⟩
  replace hb := Lib.hid (hb.out.trans (hbn.mono hb.out.size))
  clear hbn
  go_wp2_with fail
  go_at_call 11
  refine (hV.out v2 hb.out).mono ?_
  rintro e v3 ⟨rfl, hbn⟩
  replace hb := Lib.hid (hb.out.trans (hbn.mono hb.out.size))
  clear hbn
  go_wp2_with fail
  go_at_call 19
  refine (hLB.out v3 hb.out).mono ?_
  rintro e v4 ⟨rfl, hbn⟩
  replace hb := Lib.hid (hb.out.trans (hbn.mono hb.out.size))
  clear hbn
  go_wp2_with fail
  go_at_call 11
  refine (hV.out v4 hb.out).mono ?_
  rintro e v5 ⟨rfl, hbn⟩
  replace hb := Lib.hid (hb.out.trans (hbn.mono hb.out.size))
  clear hbn
  go_wp2_with fail
  go_at_call 9
  refine (hK.out v5 hb.out).mono ?_
  rintro e v6 ⟨rfl, hbn⟩
  replace hb := Lib.hid (hb.out.trans (hbn.mono hb.out.size))
  clear hbn
  go_wp2_with fail
  go_ret
  exact ⟨rfl, hb.out⟩
set_option maxRecDepth 100000 in
set_option maxHeartbeats 4000000 in
theorem pc_ok_bhi (A : Option Addr) (l : List Ent) (c : Nat) (p q : Int) (w : World) (hG : FI w A l c) (hf : fewP l) (hT : TabOK w) (hv : okF l) (h1 : ¬ p < 0) (h2 : ¬ (l.length : Int) ≤ p) (hodd : l.length % 2 = 1) (n : Nat) (hpn : (n : Int) = p) (z : Ent) (hz : l[n]? = some z) (hbc : byeC l z ≠ -1) (h5 : ¬ q < 0) (h6 : (l.length : Int) ≤ q) : Calls Tryd.prog 5 #[.slice A l.length c, .int .i64 p, .int .i64 q] w fun e w' => e = .returned (.bool true) ∧ Below w.heap.size w w' := by
  have hF := hG.few hf
  have hl7 : l.length ≤ 7 := hf.2
  have hfe := Lib.hid (lfew A l c w hG)
  rw [fewB_yes hf] at hfe
  have hK : Hid (∀ W, Below w.heap.size w W → Calls Tryd.prog 9 #[] W fun e w' => e = .returned (.bool true) ∧ Below W.heap.size W w') := fun W h => known_43 W (hT.next h)
  have ht := tmod_two l.length
  have hw0 : IntKind.i64.wrap ((l.length % 2 : Nat) : Int) = ((l.length % 2 : Nat) : Int) := IntWalk.i64_in _ (by omega)
  rw [hodd] at ht hw0
  obtain ⟨MM, hMM⟩ : ∃ M, byeC l z = M := ⟨_, rfl⟩
  have hM0 : 0 ≤ MM := by rcases byeC_bd hv (List.mem_of_getElem? hz) with h | h; exact absurd h hbc; omega
  have hbP : badP l p q := Or.inr (Or.inr (Or.inl (by omega)))
  have hC : Hid (∀ W, Below w.heap.size w W → Calls Tryd.prog 16 #[.slice A l.length c, .int .i64 p, .int .i64 q] W fun e w' => e = .returned (.tuple #[.int .i64 (0), .int .i64 (2)]) ∧ Below W.heap.size W w') := fun W h => pCost_bad A l c p q W (hF.next h) hbP
  have hW : Hid (∀ W, Below w.heap.size w W → Calls Tryd.prog 17 #[.slice A l.length c, .int .i64 p, .int .i64 q] W fun e w' => e = .returned (.tuple #[.int .i64 (0), .int .i64 (2)]) ∧ Below W.heap.size W w') := fun W h => pColors_bad A l c p q W (hF.next h) hbP
  have hB : Hid (∀ W, Below w.heap.size w W → Calls Tryd.prog 18 #[.slice A l.length c, .int .i64 p] W fun e w' => e = .returned (.tuple #[.int .i64 MM, .int .i64 (0)]) ∧ Below W.heap.size W w') := fun W h => hpn ▸ hMM ▸ (pBye_ok A l c n z W (hF.next h) hv hz hodd).2 hbc
  have hLB : Hid (∀ W, Below w.heap.size w W → Calls Tryd.prog 19 #[.slice A l.length c, .int .i64 p] W fun e w' => e = .returned (.int .i64 MM) ∧ Below W.heap.size W w') := fun W h => hpn ▸ hMM ▸ (hF.next h).lbye hv hz
  have hV : Hid (∀ W, Below w.heap.size w W → Calls Tryd.prog 11 #[.slice A l.length c] W fun e w' => e = .returned (.bool true) ∧ Below W.heap.size W w') := fun W h => fB_true hv ▸ (hF.next h).lvalid
  have hm1 : ¬ MM < 0 := by omega
  have hm2 : (MM != MM) = false := by rw [bne_eq_false_iff_eq]
  clear hF hf hG hT hMM hbc hz hpn hodd
  go_enter Tryd.func5, Tryd.ntmps5
  go_wp2_with fail
  go_at_call 12
  refine hfe.out.mono ?_
  rintro e w0 ⟨rfl, rfl⟩
  have hb : Hid (Below w.heap.size w w) := Below.refl _ _
  go_wp2_with fail
  go_at_call 16
  refine (hC.out w hb.out).mono ?_
  rintro e v0 ⟨rfl, hbn⟩
  replace hb := Lib.hid (hb.out.trans (hbn.mono hb.out.size))
  clear hbn
  go_wp2_with fail
  go_at_call 17
  refine (hW.out v0 hb.out).mono ?_
  rintro e v1 ⟨rfl, hbn⟩
  replace hb := Lib.hid (hb.out.trans (hbn.mono hb.out.size))
  clear hbn
  go_wp2_with fail
  go_at_call 18
  refine (hB.out v1 hb.out).mono ?_
  rintro e v2 ⟨rfl, hbn⟩
  replace hb := Lib.hid (hb.out.trans (hbn.mono hb.out.size))
  clear hbn
  go_wp2_with fail
  go_at_call 11
  refine (hV.out v2 hb.out).mono ?_
  rintro e v3 ⟨rfl, hbn⟩
  replace hb := Lib.hid (hb.out.trans (hbn.mono hb.out.size))
  clear hbn
  go_wp2_with fail
  go_at_call 19
  refine (hLB.out v3 hb.out).mono ?_
  rintro e v4 ⟨rfl, hbn⟩
  replace hb := Lib.hid (hb.out.trans (hbn.mono hb.out.size))
  clear hbn
  go_wp2_with fail
  go_at_call 11
  refine (hV.out v4 hb.out).mono ?_
  rintro e v5 ⟨rfl, hbn⟩
  replace hb := Lib.hid (hb.out.trans (hbn.mono hb.out.size))
  clear hbn
  go_wp2_with fail
  go_at_call 9
  refine (hK.out v5 hb.out).mono ?_
  rintro e v6 ⟨rfl, hbn⟩
  replace hb := Lib.hid (hb.out.trans (hbn.mono hb.out.size))
  clear hbn
  go_wp2_with fail
  go_ret
  exact ⟨rfl, hb.out⟩
set_option maxRecDepth 100000 in
set_option maxHeartbeats 4000000 in
theorem pc_ok_eq (A : Option Addr) (l : List Ent) (c : Nat) (p q : Int) (w : World) (hG : FI w A l c) (hf : fewP l) (hT : TabOK w) (hv : okF l) (h1 : ¬ p < 0) (h2 : ¬ (l.length : Int) ≤ p) (hodd : l.length % 2 = 1) (n : Nat) (hpn : (n : Int) = p) (z : Ent) (hz : l[n]? = some z) (hbc : byeC l z ≠ -1) (h5 : ¬ q < 0) (h6 : ¬ (l.length : Int) ≤ q) (h7 : p = q) : Calls Tryd.prog 5 #[.slice A l.length c, .int .i64 p, .int .i64 q] w fun e w' => e = .returned (.bool true) ∧ Below w.heap.size w w' := by
  have hF := hG.few hf
  have hl7 : l.length ≤ 7 := hf.2
  have hfe := Lib.hid (lfew A l c w hG)
  rw [fewB_yes hf] at hfe
  have hK : Hid (∀ W, Below w.heap.size w W → Calls Tryd.prog 9 #[] W fun e w' => e = .returned (.bool true) ∧ Below W.heap.size W w') := fun W h => known_43 W (hT.next h)
  have ht := tmod_two l.length
  have hw0 : IntKind.i64.wrap ((l.length % 2 : Nat) : Int) = ((l.length % 2 : Nat) : Int) := IntWalk.i64_in _ (by omega)
  rw [hodd] at ht hw0
  obtain ⟨MM, hMM⟩ : ∃ M, byeC l z = M := ⟨_, rfl⟩
  have hM0 : 0 ≤ MM := by rcases byeC_bd hv (List.mem_of_getElem? hz) with h | h; exact absurd h hbc; omega
  have hbP : badP l p q := Or.inr (Or.inr (Or.inr h7))
  have hC : Hid (∀ W, Below w.heap.size w W → Calls Tryd.prog 16 #[.slice A l.length c, .int .i64 p, .int .i64 q] W fun e w' => e = .returned (.tuple #[.int .i64 (0), .int .i64 (2)]) ∧ Below W.heap.size W w') := fun W h => pCost_bad A l c p q W (hF.next h) hbP
  have hW : Hid (∀ W, Below w.heap.size w W → Calls Tryd.prog 17 #[.slice A l.length c, .int .i64 p, .int .i64 q] W fun e w' => e = .returned (.tuple #[.int .i64 (0), .int .i64 (2)]) ∧ Below W.heap.size W w') := fun W h => pColors_bad A l c p q W (hF.next h) hbP
  have hB : Hid (∀ W, Below w.heap.size w W → Calls Tryd.prog 18 #[.slice A l.length c, .int .i64 p] W fun e w' => e = .returned (.tuple #[.int .i64 MM, .int .i64 (0)]) ∧ Below W.heap.size W w') := fun W h => hpn ▸ hMM ▸ (pBye_ok A l c n z W (hF.next h) hv hz hodd).2 hbc
  have hLB : Hid (∀ W, Below w.heap.size w W → Calls Tryd.prog 19 #[.slice A l.length c, .int .i64 p] W fun e w' => e = .returned (.int .i64 MM) ∧ Below W.heap.size W w') := fun W h => hpn ▸ hMM ▸ (hF.next h).lbye hv hz
  have hV : Hid (∀ W, Below w.heap.size w W → Calls Tryd.prog 11 #[.slice A l.length c] W fun e w' => e = .returned (.bool true) ∧ Below W.heap.size W w') := fun W h => fB_true hv ▸ (hF.next h).lvalid
  have hm1 : ¬ MM < 0 := by omega
  have hm2 : (MM != MM) = false := by rw [bne_eq_false_iff_eq]
  have h8 : (p == q) = true := by rw [beq_iff_eq]; exact h7
  clear hF hf hG hT hMM hbc hz hpn hodd h7
  go_enter Tryd.func5, Tryd.ntmps5
  go_wp2_with fail
  go_at_call 12
  refine hfe.out.mono ?_
  rintro e w0 ⟨rfl, rfl⟩
  have hb : Hid (Below w.heap.size w w) := Below.refl _ _
  go_wp2_with fail
  go_at_call 16
  refine (hC.out w hb.out).mono ?_
  rintro e v0 ⟨rfl, hbn⟩
  replace hb := Lib.hid (hb.out.trans (hbn.mono hb.out.size))
  clear hbn
  go_wp2_with fail
  go_at_call 17
  refine (hW.out v0 hb.out).mono ?_
  rintro e v1 ⟨rfl, hbn⟩
  replace hb := Lib.hid (hb.out.trans (hbn.mono hb.out.size))
  clear hbn
  go_wp2_with fail
  go_at_call 18
  refine (hB.out v1 hb.out).mono ?_
  rintro e v2 ⟨rfl, hbn⟩
  replace hb := Lib.hid (hb.out.trans (hbn.mono hb.out.size))
  clear hbn
  go_wp2_with fail
  go_at_call 11
  refine (hV.out v2 hb.out).mono ?_
  rintro e v3 ⟨rfl, hbn⟩
  replace hb := Lib.hid (hb.out.trans (hbn.mono hb.out.size))
  clear hbn
  go_wp2_with fail
  go_at_call 19
  refine (hLB.out v3 hb.out).mono ?_
  rintro e v4 ⟨rfl, hbn⟩
  replace hb := Lib.hid (hb.out.trans (hbn.mono hb.out.size))
  clear hbn
  go_wp2_with fail
  go_at_call 11
  refine (hV.out v4 hb.out).mono ?_
  rintro e v5 ⟨rfl, hbn⟩
  replace hb := Lib.hid (hb.out.trans (hbn.mono hb.out.size))
  clear hbn
  go_wp2_with fail
  go_at_call 9
  refine (hK.out v5 hb.out).mono ?_
  rintro e v6 ⟨rfl, hbn⟩
  replace hb := Lib.hid (hb.out.trans (hbn.mono hb.out.size))
  clear hbn
  go_wp2_with fail
  go_ret
  exact ⟨rfl, hb.out⟩
set_option maxRecDepth 100000 in
set_option maxHeartbeats 4000000 in
theorem pc_ok_met (A : Option Addr) (l : List Ent) (c : Nat) (p q : Int) (w : World) (hG : FI w A l c) (hf : fewP l) (hT : TabOK w) (hv : okF l) (h1 : ¬ p < 0) (h2 : ¬ (l.length : Int) ≤ p) (hodd : l.length % 2 = 1) (n : Nat) (hpn : (n : Int) = p) (z : Ent) (hz : l[n]? = some z) (hbc : byeC l z ≠ -1) (h5 : ¬ q < 0) (h6 : ¬ (l.length : Int) ≤ q) (h7 : p ≠ q) (a b : Nat) (hab : a < b) (hbl : b < l.length) (hmn : min p q = (a : Int)) (hmx : max p q = (b : Int)) (x y : Ent) (hx : l[a]? = some x) (hy : l[b]? = some y) (hmet : memI x.met b = true) : Calls Tryd.prog 5 #[.slice A l.length c, .int .i64 p, .int .i64 q] w fun e w' => e = .returned (.bool true) ∧ Below w.heap.size w w' := by
  have hF := hG.few hf
  have hl7 : l.length ≤ 7 := hf.2
  have hfe := Lib.hid (lfew A l c w hG)
  rw [fewB_yes hf] at hfe
  have hK : Hid (∀ W, Below w.heap.size w W → Calls Tryd.prog 9 #[] W fun e w' => e = .returned (.bool true) ∧ Below W.heap.size W w') := fun W h => known_43 W (hT.next h)
  have ht := tmod_two l.length
  have hw0 : IntKind.i64.wrap ((l.length % 2 : Nat) : Int) = ((l.length % 2 : Nat) : Int) := IntWalk.i64_in _ (by omega)
  rw [hodd] at ht hw0
  obtain ⟨MM, hMM⟩ : ∃ M, byeC l z = M := ⟨_, rfl⟩
  have hM0 : 0 ≤ MM := by rcases byeC_bd hv (List.mem_of_getElem? hz) with h | h; exact absurd h hbc; omega
  have hcm : cst l a b = -1 := by rw [cst_pair hx hy]; exact (pairC_met hv hx hy).2 hmet
  have hC : Hid (∀ W, Below w.heap.size w W → Calls Tryd.prog 16 #[.slice A l.length c, .int .i64 p, .int .i64 q] W fun e w' => e = .returned (.tuple #[.int .i64 (0), .int .i64 (9)]) ∧ Below W.heap.size W w') := fun W h => pCost_met A l c p q a b W (hF.next h) hv hab hbl hmn hmx hcm
  have hW : Hid (∀ W, Below w.heap.size w W → Calls Tryd.prog 17 #[.slice A l.length c, .int .i64 p, .int .i64 q] W fun e w' => e = .returned (.tuple #[.int .i64 (0), .int .i64 (9)]) ∧ Below W.heap.size W w') := fun W h => pColors_met A l c p q a b W (hF.next h) hv hab hbl hmn hmx hcm
  have hLP : Hid (∀ W, Below w.heap.size w W → Calls Tryd.prog 20 #[.slice A l.length c, .int .i64 (a : Int), .int .i64 (b : Int)] W fun e w' => e = .returned (.tuple #[.int .i64 (0), .int .i64 (-1)]) ∧ Below W.heap.size W w') := fun W h => lpair_met A l c a b x W (hF.next h) hx hmet
  have hB : Hid (∀ W, Below w.heap.size w W → Calls Tryd.prog 18 #[.slice A l.length c, .int .i64 p] W fun e w' => e = .returned (.tuple #[.int .i64 MM, .int .i64 (0)]) ∧ Below W.heap.size W w') := fun W h => hpn ▸ hMM ▸ (pBye_ok A l c n z W (hF.next h) hv hz hodd).2 hbc
  have hLB : Hid (∀ W, Below w.heap.size w W → Calls Tryd.prog 19 #[.slice A l.length c, .int .i64 p] W fun e w' => e = .returned (.int .i64 MM) ∧ Below W.heap.size W w') := fun W h => hpn ▸ hMM ▸ (hF.next h).lbye hv hz
  have hV : Hid (∀ W, Below w.heap.size w W → Calls Tryd.prog 11 #[.slice A l.length c] W fun e w' => e = .returned (.bool true) ∧ Below W.heap.size W w') := fun W h => fB_true hv ▸ (hF.next h).lvalid
  have hm1 : ¬ MM < 0 := by omega
  have hm2 : (MM != MM) = false := by rw [bne_eq_false_iff_eq]
  have h8 : (p == q) = false := by rw [beq_eq_false_iff_ne]; exact h7
  clear hF hf hG hT hMM hbc hz hpn hodd h7 hcm
  go_enter Tryd.func5, Tryd.ntmps5
  go_wp2_with fail
  go_at_call 12
  refine hfe.out.mono ?_
  rintro e w0 ⟨rfl, rfl⟩
  have hb : Hid (Below w.heap.size w w) := Below.refl _ _
  go_wp2_with fail
  go_at_call 16
  refine (hC.out w hb.out).mono ?_
  rintro e v0 ⟨rfl, hbn⟩
  replace hb := Lib.hid (hb.out.trans (hbn.mono hb.out.size))
  clear hbn
  go_wp2_with fail
  go_at_call 17
  refine (hW.out v0 hb.out).mono ?_
  rintro e v1 ⟨rfl, hbn⟩
  replace hb := Lib.hid (hb.out.trans (hbn.mono hb.out.size))
  clear hbn
  go_wp2_with fail
  go_at_call 18
  refine (hB.out v1 hb.out).mono ?_
  rintro e v2 ⟨rfl, hbn⟩
  replace hb := Lib.hid (hb.out.trans (hbn.mono hb.out.size))
  clear hbn
  go_wp2_with fail
  go_at_call 11
  refine (hV.out v2 hb.out).mono ?_
  rintro e v3 ⟨rfl, hbn⟩
  replace hb := Lib.hid (hb.out.trans (hbn.mono hb.out.size))
  clear hbn
  go_wp2_with fail
  go_at_call 19
  refine (hLB.out v3 hb.out).mono ?_
  rintro e v4 ⟨rfl, hbn⟩
  replace hb := Lib.hid (hb.out.trans (hbn.mono hb.out.size))
  clear hbn
  go_wp2_with fail
  go_at_call 11
  refine (hV.out v4 hb.out).mono ?_
  rintro e v5 ⟨rfl, hbn⟩
  replace hb := Lib.hid (hb.out.trans (hbn.mono hb.out.size))
  clear hbn
  go_wp2_with fail
  go_at_call 20
  refine (hLP.out v5 hb.out).mono ?_
  rintro e v6 ⟨rfl, hbn⟩
  replace hb := Lib.hid (hb.out.trans (hbn.mono hb.out.size))
  clear hbn
  go_wp2_with fail
  go_at_call 9
  refine (hK.out v6 hb.out).mono ?_
  rintro e v7 ⟨rfl, hbn⟩
  replace hb := Lib.hid (hb.out.trans (hbn.mono hb.out.size))
  clear hbn
  go_wp2_with fail
  go_ret
  exact ⟨rfl, hb.out⟩
set_option maxRecDepth 100000 in
set_option maxHeartbeats 4000000 in
theorem pc_ok_ok (A : Option Addr) (l : List Ent) (c : Nat) (p q : Int) (w : World) (hG : FI w A l c) (hf : fewP l) (hT : TabOK w) (hv : okF l) (h1 : ¬ p < 0) (h2 : ¬ (l.length : Int) ≤ p) (hodd : l.length % 2 = 1) (n : Nat) (hpn : (n : Int) = p) (z : Ent) (hz : l[n]? = some z) (hbc : byeC l z ≠ -1) (h5 : ¬ q < 0) (h6 : ¬ (l.length : Int) ≤ q) (h7 : p ≠ q) (a b : Nat) (hab : a < b) (hbl : b < l.length) (hmn : min p q = (a : Int)) (hmx : max p q = (b : Int)) (x y : Ent) (hx : l[a]? = some x) (hy : l[b]? = some y) (hmet : memI x.met b = false) : Calls Tryd.prog 5 #[.slice A l.length c, .int .i64 p, .int .i64 q] w fun e w' => e = .returned (.bool true) ∧ Below w.heap.size w w' := by
  have hF := hG.few hf
  have hl7 : l.length ≤ 7 := hf.2
  have hfe := Lib.hid (lfew A l c w hG)
  rw [fewB_yes hf] at hfe
  have hK : Hid (∀ W, Below w.heap.size w W → Calls Tryd.prog 9 #[] W fun e w' => e = .returned (.bool true) ∧ Below W.heap.size W w') := fun W h => known_43 W (hT.next h)
  have ht := tmod_two l.length
  have hw0 : IntKind.i64.wrap ((l.length % 2 : Nat) : Int) = ((l.length % 2 : Nat) : Int) := IntWalk.i64_in _ (by omega)
  rw [hodd] at ht hw0
  obtain ⟨MM, hMM⟩ : ∃ M, byeC l z = M := ⟨_, rfl⟩
  have hM0 : 0 ≤ MM := by rcases byeC_bd hv (List.mem_of_getElem? hz) with h | h; exact absurd h hbc; omega
  have hcm : cst l a b ≠ -1 := by rw [cst_pair hx hy]; intro h; rw [(pairC_met hv hx hy).1 h] at hmet; cases hmet
  obtain ⟨KK, hKK⟩ : ∃ K, cst l a b = K := ⟨_, rfl⟩
  have hKK2 : pairC x y b = KK := by rw [← hKK, cst_pair hx hy]
  obtain ⟨VV, hVV⟩ : ∃ V, whiteI x y a b = V := ⟨_, rfl⟩
  have hK0 : 0 ≤ KK := by have := cst_bd hv.num a b; omega
  have hC : Hid (∀ W, Below w.heap.size w W → Calls Tryd.prog 16 #[.slice A l.length c, .int .i64 p, .int .i64 q] W fun e w' => e = .returned (.tuple #[.int .i64 KK, .int .i64 (0)]) ∧ Below W.heap.size W w') := fun W h => hKK ▸ pCost_ok A l c p q a b W (hF.next h) hv hab hbl hmn hmx hcm
  have hW : Hid (∀ W, Below w.heap.size w W → Calls Tryd.prog 17 #[.slice A l.length c, .int .i64 p, .int .i64 q] W fun e w' => e = .returned (.tuple #[.int .i64 VV, .int .i64 (0)]) ∧ Below W.heap.size W w') := fun W h => hVV ▸ pColors_ok A l c p q a b x y W (hF.next h) hv hx hy hab hmn hmx hcm
  have hLP : Hid (∀ W, Below w.heap.size w W → Calls Tryd.prog 20 #[.slice A l.length c, .int .i64 (a : Int), .int .i64 (b : Int)] W fun e w' => e = .returned (.tuple #[.int .i64 VV, .int .i64 KK]) ∧ Below W.heap.size W w') := fun W h => hVV ▸ hKK2 ▸ lpair_two A l c a b x y W (hF.next h) hx hy (hv.num x (List.mem_of_getElem? hx)) (hv.num y (List.mem_of_getElem? hy)) hmet
  have hB : Hid (∀ W, Below w.heap.size w W → Calls Tryd.prog 18 #[.slice A l.length c, .int .i64 p] W fun e w' => e = .returned (.tuple #[.int .i64 MM, .int .i64 (0)]) ∧ Below W.heap.size W w') := fun W h => hpn ▸ hMM ▸ (pBye_ok A l c n z W (hF.next h) hv hz hodd).2 hbc
  have hLB : Hid (∀ W, Below w.heap.size w W → Calls Tryd.prog 19 #[.slice A l.length c, .int .i64 p] W fun e w' => e = .returned (.int .i64 MM) ∧ Below W.heap.size W w') := fun W h => hpn ▸ hMM ▸ (hF.next h).lbye hv hz
  have hV : Hid (∀ W, Below w.heap.size w W → Calls Tryd.prog 11 #[.slice A l.length c] W fun e w' => e = .returned (.bool true) ∧ Below W.heap.size W w') := fun W h => fB_true hv ▸ (hF.next h).lvalid
  have hm1 : ¬ MM < 0 := by omega
  have hm2 : (MM != MM) = false := by rw [bne_eq_false_iff_eq]
  have h8 : (p == q) = false := by rw [beq_eq_false_iff_ne]; exact h7
  have hk1 : ¬ KK < 0 := by omega
  have hk2 : (KK == KK) = true := beq_self_eq_true _
  have hk3 : (VV == VV) = true := beq_self_eq_true _
  clear hF hf hG hT hMM hbc hz hpn hodd h7 hKK hKK2 hVV hcm
  go_enter Tryd.func5, Tryd.ntmps5
  go_wp2_with fail
  go_at_call 12
  refine hfe.out.mono ?_
  rintro e w0 ⟨rfl, rfl⟩
  have hb : Hid (Below w.heap.size w w) := Below.refl _ _
  go_wp2_with fail
  go_at_call 16
  refine (hC.out w hb.out).mono ?_
  rintro e v0 ⟨rfl, hbn⟩
  replace hb := Lib.hid (hb.out.trans (hbn.mono hb.out.size))
  clear hbn
  go_wp2_with fail
  go_at_call 17
  refine (hW.out v0 hb.out).mono ?_
  rintro e v1 ⟨rfl, hbn⟩
  replace hb := Lib.hid (hb.out.trans (hbn.mono hb.out.size))
  clear hbn
  go_wp2_with fail
  go_at_call 18
  refine (hB.out v1 hb.out).mono ?_
  rintro e v2 ⟨rfl, hbn⟩
  replace hb := Lib.hid (hb.out.trans (hbn.mono hb.out.size))
  clear hbn
  go_wp2_with fail
  go_at_call 11
  refine (hV.out v2 hb.out).mono ?_
  rintro e v3 ⟨rfl, hbn⟩
  replace hb := Lib.hid (hb.out.trans (hbn.mono hb.out.size))
  clear hbn
  go_wp2_with fail
  go_at_call 19
  refine (hLB.out v3 hb.out).mono ?_
  rintro e v4 ⟨rfl, hbn⟩
  replace hb := Lib.hid (hb.out.trans (hbn.mono hb.out.size))
  clear hbn
  go_wp2_with fail
  go_at_call 11
  refine (hV.out v4 hb.out).mono ?_
  rintro e v5 ⟨rfl, hbn⟩
  replace hb := Lib.hid (hb.out.trans (hbn.mono hb.out.size))
  clear hbn
  go_wp2_with fail
  go_at_call 20
  refine (hLP.out v5 hb.out).mono ?_
  rintro e v6 ⟨rfl, hbn⟩
  replace hb := Lib.hid (hb.out.trans (hbn.mono hb.out.size))
  clear hbn
  go_wp2_with fail
  go_at_call 9
  refine (hK.out v6 hb.out).mono ?_
  rintro e v7 ⟨rfl, hbn⟩
  replace hb := Lib.hid (hb.out.trans (hbn.mono hb.out.size))
  clear hbn
  go_wp2_with fail
  go_ret
  exact ⟨rfl, hb.out⟩
set_option maxRecDepth 100000 in
theorem pc_few (A : Option Addr) (l : List Ent) (c : Nat) (p q : Int) (w : World) (hG : FI w A l c) (hf : ¬ fewP l) (hT : TabOK w) : Calls Tryd.prog 5 #[.slice A l.length c, .int .i64 p, .int .i64 q] w fun e w' => e = .returned (.bool true) ∧ Below w.heap.size w w' := by
  have hfe := Lib.hid (lfew A l c w hG)
  rw [fewB_no hf] at hfe
  have hK : Hid (Calls Tryd.prog 9 #[] w fun e w' => e = .returned (.bool true) ∧ Below w.heap.size w w') := known_43 w hT
  clear hG hf hT
  go_enter Tryd.func5, Tryd.ntmps5
  go_wp2_with fail
  go_at_call 12
  refine hfe.out.mono ?_
  rintro e w0 ⟨rfl, rfl⟩
  go_wp2_with fail
  go_at_call 9
  refine hK.out.mono ?_
  rintro e w1 ⟨rfl, hb⟩
  go_wp2_with fail
  go_ret
  exact ⟨rfl, hb⟩
theorem law_pcosts (A : Option Addr) (l : List Ent) (c : Nat) (p q : Int) (w : World) (hG : FI w A l c) (hT : TabOK w) : Calls Tryd.prog 5 #[.slice A l.length c, .int .i64 p, .int .i64 q] w fun e w' => e = .returned (.bool true) ∧ Below w.heap.size w w' := by
  by_cases hf : fewP l
  rotate_left
  · exact pc_few A l c p q w hG hf hT
  by_cases hv : okF l
  rotate_left
  · exact pc_inv A l c p q w hG hf hT hv
  by_cases h1 : p < 0
  · exact pc_alo A l c p q w hG hf hT hv h1
  by_cases h2 : (l.length : Int) ≤ p
  · by_cases h3 : q < 0
    · exact pc_ahi1 A l c p q w hG hf hT hv h2 h3
    · exact pc_ahi2 A l c p q w hG hf hT hv h2 h3
  obtain ⟨n, hn⟩ := Int.eq_ofNat_of_zero_le (show 0 ≤ p by omega)
  obtain ⟨z, hz⟩ : ∃ z, l[n]? = some z := ⟨_, List.getElem?_eq_getElem (by omega)⟩
  have hpair : ∀ (h5 : ¬ q < 0) (h6 : ¬ (l.length : Int) ≤ q) (h7 : p ≠ q), ∃ (a b : Nat) (x y : Ent), a < b ∧ b < l.length ∧ min p q = (a : Int) ∧ max p q = (b : Int) ∧ l[a]? = some x ∧ l[b]? = some y := by
    intro h5 h6 h7
    obtain ⟨m, hm⟩ := Int.eq_ofNat_of_zero_le (show 0 ≤ q by omega)
    by_cases h : n < m
    · exact ⟨n, m, _, _, h, by omega, by omega, by omega, hz, List.getElem?_eq_getElem (show m < l.length by omega)⟩
    · exact ⟨m, n, _, _, by omega, by omega, by omega, by omega, List.getElem?_eq_getElem (show m < l.length by omega), hz⟩
  by_cases hpar : l.length % 2 = 0
  · skip
    by_cases h5 : q < 0
    · exact pc_even_blo A l c p q w hG hf hT hv h1 h2 hpar h5
    by_cases h6 : (l.length : Int) ≤ q
    · exact pc_even_bhi A l c p q w hG hf hT hv h1 h2 hpar h5 h6
    by_cases h7 : p = q
    · exact pc_even_eq A l c p q w hG hf hT hv h1 h2 hpar h5 h6 h7
    obtain ⟨a, b, x, y, hab, hbl, hmn, hmx, hx, hy⟩ := hpair h5 h6 h7
    cases hmet : memI x.met b with
    | true => exact pc_even_met A l c p q w hG hf hT hv h1 h2 hpar h5 h6 h7 a b hab hbl hmn hmx x y hx hy hmet
    | false => exact pc_even_ok A l c p q w hG hf hT hv h1 h2 hpar h5 h6 h7 a b hab hbl hmn hmx x y hx hy hmet
  have hodd : l.length % 2 = 1 := by omega
  by_cases hbc : byeC l z = -1
  · skip
    by_cases h5 : q < 0
    · exact pc_none_blo A l c p q w hG hf hT hv h1 h2 hodd n hn.symm z hz hbc h5
    by_cases h6 : (l.length : Int) ≤ q
    · exact pc_none_bhi A l c p q w hG hf hT hv h1 h2 hodd n hn.symm z hz hbc h5 h6
    by_cases h7 : p = q
    · exact pc_none_eq A l c p q w hG hf hT hv h1 h2 hodd n hn.symm z hz hbc h5 h6 h7
    obtain ⟨a, b, x, y, hab, hbl, hmn, hmx, hx, hy⟩ := hpair h5 h6 h7
    cases hmet : memI x.met b with
    | true => exact pc_none_met A l c p q w hG hf hT hv h1 h2 hodd n hn.symm z hz hbc h5 h6 h7 a b hab hbl hmn hmx x y hx hy hmet
    | false => exact pc_none_ok A l c p q w hG hf hT hv h1 h2 hodd n hn.symm z hz hbc h5 h6 h7 a b hab hbl hmn hmx x y hx hy hmet
  by_cases h5 : q < 0
  · exact pc_ok_blo A l c p q w hG hf hT hv h1 h2 hodd n hn.symm z hz hbc h5
  by_cases h6 : (l.length : Int) ≤ q
  · exact pc_ok_bhi A l c p q w hG hf hT hv h1 h2 hodd n hn.symm z hz hbc h5 h6
  by_cases h7 : p = q
  · exact pc_ok_eq A l c p q w hG hf hT hv h1 h2 hodd n hn.symm z hz hbc h5 h6 h7
  obtain ⟨a, b, x, y, hab, hbl, hmn, hmx, hx, hy⟩ := hpair h5 h6 h7
  cases hmet : memI x.met b with
  | true => exact pc_ok_met A l c p q w hG hf hT hv h1 h2 hodd n hn.symm z hz hbc h5 h6 h7 a b hab hbl hmn hmx x y hx hy hmet
  | false => exact pc_ok_ok A l c p q w hG hf hT hv h1 h2 hodd n hn.symm z hz hbc h5 h6 h7 a b hab hbl hmn hmx x y hx hy hmet
end Go.Proofs.YtjjjdoealagpcaaDoor
