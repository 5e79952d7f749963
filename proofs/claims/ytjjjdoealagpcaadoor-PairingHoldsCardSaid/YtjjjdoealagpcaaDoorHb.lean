/- Layer 43: the program's value of a pairing. -/
import Derived.Test.YtjjjdoealagpcaaDoorHa
namespace Go.Proofs.YtjjjdoealagpcaaDoor
open Go Go.RowKit
set_option linter.unusedSimpArgs false
set_option linter.unusedVariables false
attribute [local go_sem ↓] Go.wp_at_zero Go.wp_at_succ
set_option maxRecDepth 100000 in
set_option maxHeartbeats 8000000 in
theorem pvalue (A O V : Option Addr) (l : List Ent) (o : List Int) (v : List Bool) (c co cv : Nat) (w : World) (hF : FH w A l c) (hv : okF l) (hM : RM w O V o v) (hol : o.length ≤ 100000) (hvl : v.length ≤ 100000) :
    Calls Tryd.prog 40 #[.slice A l.length c, .agg #[.slice O o.length co, .slice V v.length cv]] w fun e w' => e = .returned (.int .i64 (valR l o v)) ∧ Below w.heap.size w w' := by
  have h12 := hv.2.1
  have h2 := hv.1
  by_cases ho : o.length = l.length
  rotate_left
  · have hV : Hid (valR l o v = -1) := valR_no fun h => ho h.1
    have q0 : ((o.length : Int) != (l.length : Int)) = true := by rw [bne_iff_ne]; omega
    have hBX := Lib.hid (RB.new w (.slice O o.length co) (.slice V v.length cv))
    have hb1 : Hid (Below w.heap.size w (w.alloc (.cells #[.slice O o.length co, .slice V v.length cv] 30))) := (Below.refl _ _).alloc (Nat.le_refl _) _
    clear hF hM hv
    go_enter Tryd.func40, Tryd.ntmps40
    go_upto_region 1 with fail
    generalize w.heap.size = B0 at hBX ⊢
    generalize w.alloc (.cells #[.slice O o.length co, .slice V v.length cv] 30) = w1 at *
    have c0 := hBX.out.c0
    have c1 := hBX.out.c1
    go_wp2_with fail
    go_ret
    exact ⟨PC.ri hV.out.symm, hb1.out⟩
  by_cases hw : v.length = l.length
  rotate_left
  · have hV : Hid (valR l o v = -1) := valR_no fun h => hw h.2.1
    rw [ho]
    have q1 : ((l.length : Int) != (l.length : Int)) = false := bne_self_eq_false _
    have q0 : ((v.length : Int) != (l.length : Int)) = true := by rw [bne_iff_ne]; omega
    have hBX := Lib.hid (RB.new w (.slice O l.length co) (.slice V v.length cv))
    have hb1 : Hid (Below w.heap.size w (w.alloc (.cells #[.slice O l.length co, .slice V v.length cv] 30))) := (Below.refl _ _).alloc (Nat.le_refl _) _
    clear hF hM hv
    go_enter Tryd.func40, Tryd.ntmps40
    go_upto_region 1 with fail
    generalize w.heap.size = B0 at hBX ⊢
    generalize w.alloc (.cells #[.slice O l.length co, .slice V v.length cv] 30) = w1 at *
    have c0 := hBX.out.c0
    have c1 := hBX.out.c1
    go_wp2_with fail
    go_ret
    exact ⟨PC.ri hV.out.symm, hb1.out⟩
  obtain ⟨bo, oo, bv, ov, rfl, rfl, hR⟩ := hM.rc (by omega) (by omega)
  rw [ho, hw]
  have q0 : ((l.length : Int) != (l.length : Int)) = false := bne_self_eq_false _
  have hBX := Lib.hid (RB.new w (.slice (some ⟨bo, oo, none⟩) l.length co) (.slice (some ⟨bv, ov, none⟩) l.length cv))
  have hb1 : Hid (Below w.heap.size w (w.alloc (.cells #[.slice (some ⟨bo, oo, none⟩) l.length co, .slice (some ⟨bv, ov, none⟩) l.length cv] 30))) := (Below.refl _ _).alloc (Nat.le_refl _) _
  have hRC := Lib.hid (hR.next hb1.out)
  have hFW := Lib.hid (hF.next hb1.out)
  have hvH := Lib.hid hv
  have hoH := Lib.hid ho
  have hwH := Lib.hid hw
  have hnum := Lib.hid hv.num
  have ht := tmod_two l.length
  have hr2 : l.length % 2 < 2 := Nat.mod_lt _ (by decide)
  obtain ⟨r, hr⟩ : ∃ r, l.length % 2 = r := ⟨_, rfl⟩
  rw [hr] at ht hr2
  replace hr := Lib.hid hr
  have hwr : IntKind.i64.wrap (r : Int) = (r : Int) := IntWalk.i64_in _ (by omega)
  have gL : IntKind.i64.wrap ((l.length : Int) - 1) = (l.length : Int) - 1 := IntWalk.i64_in _ (by omega)
  clear hF hM hR hv ho hw
  go_enter Tryd.func40, Tryd.ntmps40
  go_upto_region 1 with fail
  generalize w.heap.size = B0 at hBX ⊢
  generalize w.alloc (.cells #[.slice (some ⟨bo, oo, none⟩) l.length co, .slice (some ⟨bv, ov, none⟩) l.length cv] 30) = w1 at *
  have c0 := hBX.out.c0
  have c1 := hBX.out.c1
  go_wp2_with fail
  clear c0 c1 q0
  go_loopw [5, 6, 28] (fun s b i wr => ∃ k : Nat, k ≤ l.length ∧ i = .int .i64 k ∧ s = .int .i64 (sumR l o k) ∧ b = .int .i64 (byN o k : Nat) ∧ Hid (∀ j, j < k → okR l o v j) ∧ byN o k ≤ r ∧ Hid (Below w1.heap.size w1 wr)) (fun _ _ i _ => l.length - (intOf i).toNat)
  case atStart => exact ⟨0, by omega, rfl, rfl, rfl, fun j hj => absurd hj (Nat.not_lt_zero _), Nat.zero_le _, Below.refl _ _⟩
  case round =>
    obtain ⟨k, hk, rfl, rfl, rfl, hgood, hby, hb⟩ := hrel
    obtain ⟨s0, s1⟩ := sumR_bd hnum.out k hgood.out
    obtain ⟨S, hS⟩ : ∃ S, sumR l o k = S := ⟨_, rfl⟩
    obtain ⟨N, hN⟩ : ∃ N, byN o k = N := ⟨_, rfl⟩
    rw [hS] at s0 s1
    rw [hN] at hby
    simp only [hS, hN]
    replace hS := Lib.hid hS
    replace hN := Lib.hid hN
    by_cases hkn : k < l.length
    rotate_left
    · obtain rfl : k = l.length := by omega
      by_cases hNr : N = r
      · have q1 : ((N : Int) != (r : Int)) = false := by rw [bne_eq_false_iff_eq]; omega
        have hV : Hid (valR l o v = S) := by rw [valR_yes ⟨hoH.out, hwH.out, hgood.out, by rw [hN.out, hr.out]; exact hNr⟩]; exact hS.out
        clear hNr
        go_wp2_with fail
        go_ret
        exact ⟨PC.ri hV.out.symm, hb1.out.trans (hb.out.mono hb1.out.size)⟩
      · have q1 : ((N : Int) != (r : Int)) = true := by rw [bne_iff_ne]; omega
        have hV : Hid (valR l o v = -1) := valR_no fun h => by have h1 := h.2.2.2; rw [hN.out, hr.out] at h1; exact hNr h1
        clear hNr
        go_wp2_with fail
        go_ret
        exact ⟨PC.ri hV.out.symm, hb1.out.trans (hb.out.mono hb1.out.size)⟩
    obtain ⟨e, he⟩ : ∃ e, o[k]? = some e := ⟨_, List.getElem?_eq_getElem (by have := hoH.out; omega)⟩
    obtain ⟨f, hf⟩ : ∃ f, v[k]? = some f := ⟨_, List.getElem?_eq_getElem (by have := hwH.out; omega)⟩
    obtain ⟨x, hx⟩ : ∃ x, l[k]? = some x := ⟨_, List.getElem?_eq_getElem hkn⟩
    have heq := oE_eq he
    have hfq := vE_eq hf
    have hkI : (k : Int) < (l.length : Int) := by omega
    have hk0 : (0 : Int) ≤ (k : Int) := Int.natCast_nonneg _
    have c0 := (hBX.out.next hb.out).c0
    have c1 := (hBX.out.next hb.out).c1
    have e0 := (hRC.out.next hb.out).co k _ he
    have v0 := (hRC.out.next hb.out).cv k _ hf
    have heH := Lib.hid he
    have hfH := Lib.hid hf
    have hxH := Lib.hid hx
    clear he hf hx
    have gN : IntKind.i64.wrap ((N : Int) + 1) = ((N + 1 : Nat) : Int) := IntWalk.i64_in _ (by omega)
    by_cases hm : e = -1
    · subst hm
      have hcb := cst_bd hnum.out k l.length
      obtain ⟨K, hK⟩ : ∃ K, cst l k l.length = K := ⟨_, rfl⟩
      rw [hK] at hcb
      have hCo : Hid (∀ W, Below w1.heap.size w1 W → Calls Tryd.prog 38 #[.slice A l.length c, .int .i64 (k : Int), .int .i64 (l.length : Int)] W fun e w' => e = .returned (.int .i64 K) ∧ Below W.heap.size W w') := fun W h => hK ▸ (hFW.out.next h).pcost hvH.out hkn (Nat.le_refl _) (by omega) (by omega)
      replace hK := Lib.hid hK
      have hbyN := byN_bye heq
      have hsuN := sumR_bye (l := l) heq
      rw [hN.out] at hbyN
      rw [hS.out, hK.out] at hsuN
      replace hbyN := Lib.hid hbyN
      replace hsuN := Lib.hid hsuN
      have hiff : Hid (okR l o v k ↔ byeR l v k) := okR_bye heq
      cases f with
      | true =>
        have hV : Hid (valR l o v = -1) := valR_row hkn fun h => by have := (hiff.out.1 h).1; rw [hfq] at this; cases this
        clear heq hfq
        go_wp2_with fail
        go_ret
        exact ⟨PC.ri hV.out.symm, hb1.out.trans (hb.out.mono hb1.out.size)⟩
      | false =>
        clear heq
        by_cases hov : (r : Int) < ((N + 1 : Nat) : Int)
        · have hV : Hid (valR l o v = -1) := valR_over (k := k + 1) (by omega) (by rw [hbyN.out, hr.out]; omega)
          clear hfq
          go_wp2_with fail
          go_ret
          exact ⟨PC.ri hV.out.symm, hb1.out.trans (hb.out.mono hb1.out.size)⟩
        by_cases hK1 : K = -1
        · have hV : Hid (valR l o v = -1) := valR_row hkn fun h => (hiff.out.1 h).2 (by rw [hK.out]; exact hK1)
          have q2 : (K == -1) = true := by rw [beq_iff_eq]; exact hK1
          clear hfq hK1
          go_wp2_with fail
          go_at_call 38
          refine (hCo.out _ hb.out).mono ?_
          rintro e u ⟨rfl, hbn⟩
          replace hb := Lib.hid (hb.out.trans (hbn.mono hb.out.size))
          clear hbn
          clear c0 c1 e0 v0
          have c0 := (hBX.out.next hb.out).c0
          have c1 := (hBX.out.next hb.out).c1
          have e0 := (hRC.out.next hb.out).co k _ heH.out
          have v0 := (hRC.out.next hb.out).cv k _ hfH.out
          go_wp2_with fail
          go_ret
          exact ⟨PC.ri hV.out.symm, hb1.out.trans (hb.out.mono hb1.out.size)⟩
        have q2 : (K == -1) = false := by rw [beq_eq_false_iff_ne]; exact hK1
        have gS : IntKind.i64.wrap (S + K) = S + K := IntWalk.i64_in _ (by omega)
        have hnew : Hid (∀ j, j < k + 1 → okR l o v j) := fun j hj => by
          by_cases e : j = k
          · subst e; exact hiff.out.2 ⟨hfq, by rw [hK.out]; exact hK1⟩
          · exact hgood.out j (by omega)
        replace hfq := Lib.hid hfq
        replace hK1 := Lib.hid hK1
        go_wp2_with fail
        go_at_call 38
        refine (hCo.out _ hb.out).mono ?_
        rintro e u ⟨rfl, hbn⟩
        replace hb := Lib.hid (hb.out.trans (hbn.mono hb.out.size))
        clear hbn
        clear c0 c1 e0 v0
        have c0 := (hBX.out.next hb.out).c0
        have c1 := (hBX.out.next hb.out).c1
        have e0 := (hRC.out.next hb.out).co k _ heH.out
        have v0 := (hRC.out.next hb.out).cv k _ hfH.out
        go_wp2_with fail
        go_at_call 38
        refine (hCo.out _ hb.out).mono ?_
        rintro e u ⟨rfl, hbn⟩
        replace hb := Lib.hid (hb.out.trans (hbn.mono hb.out.size))
        clear hbn
        clear c0 c1 e0 v0
        have c0 := (hBX.out.next hb.out).c0
        have c1 := (hBX.out.next hb.out).c1
        have e0 := (hRC.out.next hb.out).co k _ heH.out
        have v0 := (hRC.out.next hb.out).cv k _ hfH.out
        go_wp2_with fail
        go_roundw
        case rel => exact ⟨k + 1, by omega, by go_num, by rw [hsuN.out], by rw [hbyN.out]; go_num, hnew, by rw [hbyN.out]; omega, hb⟩
        case measure => simp [intOf]; omega
    have q1 : (e == -1) = false := by rw [beq_eq_false_iff_ne]; exact hm
    have hiff : Hid (okR l o v k ↔ twoR l o v k) := okR_two (by rw [heq]; exact hm)
    have hbyN := byN_two (o := o) (k := k) (by rw [heq]; exact hm)
    rw [hN.out] at hbyN
    replace hbyN := Lib.hid hbyN
    replace hm := Lib.hid hm
    by_cases n0 : e < 0
    · have hV : Hid (valR l o v = -1) := valR_row hkn fun h => by have := (hiff.out.1 h).1; rw [heq] at this; omega
      have i1 : inB e 0 ((l.length : Int) - 1) = false := inB_no (by omega)
      clear heq hfq
      go_wp2_with (first | (go_at_call 30; refine (pwithin _ _ _ _).mono ?_; rintro e' w' ⟨rfl, rfl⟩))
      go_ret
      exact ⟨PC.ri hV.out.symm, hb1.out.trans (hb.out.mono hb1.out.size)⟩
    by_cases n1 : (l.length : Int) ≤ e
    · have hV : Hid (valR l o v = -1) := valR_row hkn fun h => by have := (hiff.out.1 h).2.1; rw [heq] at this; omega
      have i1 : inB e 0 ((l.length : Int) - 1) = false := inB_no (by omega)
      clear heq hfq
      go_wp2_with (first | (go_at_call 30; refine (pwithin _ _ _ _).mono ?_; rintro e' w' ⟨rfl, rfl⟩))
      go_ret
      exact ⟨PC.ri hV.out.symm, hb1.out.trans (hb.out.mono hb1.out.size)⟩
    have i1 : inB e 0 ((l.length : Int) - 1) = true := inB_yes (by omega) (by omega)
    by_cases n2 : e = (k : Int)
    · have hV : Hid (valR l o v = -1) := valR_row hkn fun h => (hiff.out.1 h).2.2.1 (heq.trans n2)
      have q3 : (e == (k : Int)) = true := by rw [beq_iff_eq]; exact n2
      clear heq hfq n2
      go_wp2_with (first | (go_at_call 30; refine (pwithin _ _ _ _).mono ?_; rintro e' w' ⟨rfl, rfl⟩))
      go_ret
      exact ⟨PC.ri hV.out.symm, hb1.out.trans (hb.out.mono hb1.out.size)⟩
    have q3 : (e == (k : Int)) = false := by rw [beq_eq_false_iff_ne]; exact n2
    obtain ⟨E, hE⟩ := Int.eq_ofNat_of_zero_le (show 0 ≤ e by omega)
    subst hE
    have hE0 : (0 : Int) ≤ (E : Int) := Int.natCast_nonneg _
    have hEk : E ≠ k := fun h => n2 (by rw [h])
    have hEn : E < l.length := by omega
    have hEI : (E : Int) < (l.length : Int) := by omega
    obtain ⟨g, hg⟩ : ∃ g, o[E]? = some g := ⟨_, List.getElem?_eq_getElem (by have := hoH.out; omega)⟩
    have hgq := oE_eq hg
    have g0 := (hRC.out.next hb.out).co E _ hg
    replace hgH := Lib.hid hg
    clear hg
    replace n2 := Lib.hid n2
    have htw : Hid (∀ (a b : Nat), min k E = a → max k E = b → (twoR l o v k ↔ E < l.length ∧ E ≠ k ∧ g = k ∧ cst l a b ≠ -1 ∧ f = (whI l a b == (k : Int)))) := fun a b ha hb => twoR_iff heq hgq hfq ha hb
    clear hgq hfq
    replace heq := Lib.hid heq
    by_cases n4 : g = (k : Int)
    rotate_left
    · have hV : Hid (valR l o v = -1) := valR_row hkn fun h => n4 ((htw.out _ _ rfl rfl).1 (hiff.out.1 h)).2.2.1
      have q4 : (g != (k : Int)) = true := by rw [bne_iff_ne]; exact n4
      clear n4
      go_wp2_with (first | (go_at_call 30; refine (pwithin _ _ _ _).mono ?_; rintro e' w' ⟨rfl, rfl⟩))
      go_ret
      exact ⟨PC.ri hV.out.symm, hb1.out.trans (hb.out.mono hb1.out.size)⟩
    have q4 : (g != (k : Int)) = false := by rw [bne_eq_false_iff_eq]; exact n4
    replace n4 := Lib.hid n4
    obtain ⟨y, hy⟩ : ∃ y, l[E]? = some y := ⟨_, List.getElem?_eq_getElem hEn⟩
    replace hyH := Lib.hid hy
    clear hy
    by_cases hlt : k < E
    · have hab : k < E := by omega
      have mn : min (k : Int) (E : Int) = (k : Int) := by omega
      have mx : max (k : Int) (E : Int) = (E : Int) := by omega
      have q5 : (k : Int) < (E : Int) := by omega
      have hsuN := sumR_lt (l := l) heq.out (by omega)
      have ht2 := htw.out k E (by omega) (by omega)
      have hwI := whI_eq hxH.out hyH.out
      rw [hwI] at ht2
      have hcb := cst_bd hnum.out k E
      obtain ⟨K, hK⟩ : ∃ K, cst l k E = K := ⟨_, rfl⟩
      obtain ⟨T, hT⟩ : ∃ T, whiteI x y k E = T := ⟨_, rfl⟩
      rw [hK] at hcb ht2
      rw [hT] at ht2
      rw [hS.out, hK] at hsuN
      have hCo : Hid (∀ W, Below w1.heap.size w1 W → Calls Tryd.prog 38 #[.slice A l.length c, .int .i64 (k : Int), .int .i64 (E : Int)] W fun e w' => e = .returned (.int .i64 K) ∧ Below W.heap.size W w') := fun W h => hK ▸ (hFW.out.next h).pcost hvH.out hab (by omega) mn mx
      have hCl : Hid (∀ W, Below w1.heap.size w1 W → Calls Tryd.prog 35 #[.slice A l.length c, .int .i64 (k : Int), .int .i64 (E : Int)] W fun e w' => e = .returned (.tuple #[.int .i64 T, .int .i64 (colC x y)]) ∧ Below W.heap.size W w') := fun W h => hT ▸ pcolors A l c k E x y W (hFW.out.next h).fld.row hxH.out hyH.out (hnum.out x (List.mem_of_getElem? hxH.out)).1 (hnum.out y (List.mem_of_getElem? hyH.out)).1 hFW.out.len
      obtain ⟨CC, hCC⟩ : ∃ C, colC x y = C := ⟨_, rfl⟩
      rw [hCC] at hCl
      clear hCC
      replace hsuN := Lib.hid hsuN
      replace ht2 := Lib.hid ht2
      replace hK := Lib.hid hK
      replace hT := Lib.hid hT
      clear hwI
      by_cases hK1 : K = -1
      · have hV : Hid (valR l o v = -1) := valR_row hkn fun h => (ht2.out.1 (hiff.out.1 h)).2.2.2.1 hK1
        have q6 : (K == -1) = true := by rw [beq_iff_eq]; exact hK1
        clear hK1
        go_wp2_with (first | (go_at_call 30; refine (pwithin _ _ _ _).mono ?_; rintro e' w' ⟨rfl, rfl⟩))
        go_at_call 38
        refine (hCo.out _ hb.out).mono ?_
        rintro e u ⟨rfl, hbn⟩
        replace hb := Lib.hid (hb.out.trans (hbn.mono hb.out.size))
        clear hbn
        clear c0 c1 e0 v0
        have c0 := (hBX.out.next hb.out).c0
        have c1 := (hBX.out.next hb.out).c1
        have e0 := (hRC.out.next hb.out).co k _ heH.out
        have v0 := (hRC.out.next hb.out).cv k _ hfH.out
        go_wp2_with fail
        go_ret
        exact ⟨PC.ri hV.out.symm, hb1.out.trans (hb.out.mono hb1.out.size)⟩
      have q6 : (K == -1) = false := by rw [beq_eq_false_iff_ne]; exact hK1
      replace hK1 := Lib.hid hK1
      cases hTk : (T == (k : Int)) with
      | true =>
        cases f with
        | true =>
          have hnew : Hid (∀ j, j < k + 1 → okR l o v j) := fun j hj => by
            by_cases e : j = k
            · subst e; exact hiff.out.2 (ht2.out.2 ⟨hEn, hEk, n4.out, hK1.out, by rw [hTk]⟩)
            · exact hgood.out j (by omega)
          have gS : IntKind.i64.wrap (S + K) = S + K := IntWalk.i64_in _ (by omega)
          go_wp2_with (first | (go_at_call 30; refine (pwithin _ _ _ _).mono ?_; rintro e' w' ⟨rfl, rfl⟩))
          go_at_call 38
          refine (hCo.out _ hb.out).mono ?_
          rintro e u ⟨rfl, hbn⟩
          replace hb := Lib.hid (hb.out.trans (hbn.mono hb.out.size))
          clear hbn
          clear c0 c1 e0 v0
          have c0 := (hBX.out.next hb.out).c0
          have c1 := (hBX.out.next hb.out).c1
          have e0 := (hRC.out.next hb.out).co k _ heH.out
          have v0 := (hRC.out.next hb.out).cv k _ hfH.out
          go_wp2_with fail
          go_at_call 35
          refine (hCl.out _ hb.out).mono ?_
          rintro e u ⟨rfl, hbn⟩
          replace hb := Lib.hid (hb.out.trans (hbn.mono hb.out.size))
          clear hbn
          clear c0 c1 e0 v0
          have c0 := (hBX.out.next hb.out).c0
          have c1 := (hBX.out.next hb.out).c1
          have e0 := (hRC.out.next hb.out).co k _ heH.out
          have v0 := (hRC.out.next hb.out).cv k _ hfH.out
          go_wp2_with fail
          go_at_call 38
          refine (hCo.out _ hb.out).mono ?_
          rintro e u ⟨rfl, hbn⟩
          replace hb := Lib.hid (hb.out.trans (hbn.mono hb.out.size))
          clear hbn
          clear c0 c1 e0 v0
          have c0 := (hBX.out.next hb.out).c0
          have c1 := (hBX.out.next hb.out).c1
          have e0 := (hRC.out.next hb.out).co k _ heH.out
          have v0 := (hRC.out.next hb.out).cv k _ hfH.out
          go_wp2_with fail
          go_roundw
          case rel => exact ⟨k + 1, by omega, by go_num, by rw [hsuN.out], by rw [hbyN.out], hnew, by rw [hbyN.out]; omega, hb⟩
          case measure => simp [intOf]; omega
        | false =>
          have hV : Hid (valR l o v = -1) := valR_row hkn fun h => by have h9 := (ht2.out.1 (hiff.out.1 h)).2.2.2.2; rw [hTk] at h9; cases h9
          go_wp2_with (first | (go_at_call 30; refine (pwithin _ _ _ _).mono ?_; rintro e' w' ⟨rfl, rfl⟩))
          go_at_call 38
          refine (hCo.out _ hb.out).mono ?_
          rintro e u ⟨rfl, hbn⟩
          replace hb := Lib.hid (hb.out.trans (hbn.mono hb.out.size))
          clear hbn
          clear c0 c1 e0 v0
          have c0 := (hBX.out.next hb.out).c0
          have c1 := (hBX.out.next hb.out).c1
          have e0 := (hRC.out.next hb.out).co k _ heH.out
          have v0 := (hRC.out.next hb.out).cv k _ hfH.out
          go_wp2_with fail
          go_at_call 35
          refine (hCl.out _ hb.out).mono ?_
          rintro e u ⟨rfl, hbn⟩
          replace hb := Lib.hid (hb.out.trans (hbn.mono hb.out.size))
          clear hbn
          clear c0 c1 e0 v0
          have c0 := (hBX.out.next hb.out).c0
          have c1 := (hBX.out.next hb.out).c1
          have e0 := (hRC.out.next hb.out).co k _ heH.out
          have v0 := (hRC.out.next hb.out).cv k _ hfH.out
          go_wp2_with fail
          go_ret
          exact ⟨PC.ri hV.out.symm, hb1.out.trans (hb.out.mono hb1.out.size)⟩
      | false =>
        cases f with
        | true =>
          have hV : Hid (valR l o v = -1) := valR_row hkn fun h => by have h9 := (ht2.out.1 (hiff.out.1 h)).2.2.2.2; rw [hTk] at h9; cases h9
          go_wp2_with (first | (go_at_call 30; refine (pwithin _ _ _ _).mono ?_; rintro e' w' ⟨rfl, rfl⟩))
          go_at_call 38
          refine (hCo.out _ hb.out).mono ?_
          rintro e u ⟨rfl, hbn⟩
          replace hb := Lib.hid (hb.out.trans (hbn.mono hb.out.size))
          clear hbn
          clear c0 c1 e0 v0
          have c0 := (hBX.out.next hb.out).c0
          have c1 := (hBX.out.next hb.out).c1
          have e0 := (hRC.out.next hb.out).co k _ heH.out
          have v0 := (hRC.out.next hb.out).cv k _ hfH.out
          go_wp2_with fail
          go_at_call 35
          refine (hCl.out _ hb.out).mono ?_
          rintro e u ⟨rfl, hbn⟩
          replace hb := Lib.hid (hb.out.trans (hbn.mono hb.out.size))
          clear hbn
          clear c0 c1 e0 v0
          have c0 := (hBX.out.next hb.out).c0
          have c1 := (hBX.out.next hb.out).c1
          have e0 := (hRC.out.next hb.out).co k _ heH.out
          have v0 := (hRC.out.next hb.out).cv k _ hfH.out
          go_wp2_with fail
          go_ret
          exact ⟨PC.ri hV.out.symm, hb1.out.trans (hb.out.mono hb1.out.size)⟩
        | false =>
          have hnew : Hid (∀ j, j < k + 1 → okR l o v j) := fun j hj => by
            by_cases e : j = k
            · subst e; exact hiff.out.2 (ht2.out.2 ⟨hEn, hEk, n4.out, hK1.out, by rw [hTk]⟩)
            · exact hgood.out j (by omega)
          have gS : IntKind.i64.wrap (S + K) = S + K := IntWalk.i64_in _ (by omega)
          go_wp2_with (first | (go_at_call 30; refine (pwithin _ _ _ _).mono ?_; rintro e' w' ⟨rfl, rfl⟩))
          go_at_call 38
          refine (hCo.out _ hb.out).mono ?_
          rintro e u ⟨rfl, hbn⟩
          replace hb := Lib.hid (hb.out.trans (hbn.mono hb.out.size))
          clear hbn
          clear c0 c1 e0 v0
          have c0 := (hBX.out.next hb.out).c0
          have c1 := (hBX.out.next hb.out).c1
          have e0 := (hRC.out.next hb.out).co k _ heH.out
          have v0 := (hRC.out.next hb.out).cv k _ hfH.out
          go_wp2_with fail
          go_at_call 35
          refine (hCl.out _ hb.out).mono ?_
          rintro e u ⟨rfl, hbn⟩
          replace hb := Lib.hid (hb.out.trans (hbn.mono hb.out.size))
          clear hbn
          clear c0 c1 e0 v0
          have c0 := (hBX.out.next hb.out).c0
          have c1 := (hBX.out.next hb.out).c1
          have e0 := (hRC.out.next hb.out).co k _ heH.out
          have v0 := (hRC.out.next hb.out).cv k _ hfH.out
          go_wp2_with fail
          go_at_call 38
          refine (hCo.out _ hb.out).mono ?_
          rintro e u ⟨rfl, hbn⟩
          replace hb := Lib.hid (hb.out.trans (hbn.mono hb.out.size))
          clear hbn
          clear c0 c1 e0 v0
          have c0 := (hBX.out.next hb.out).c0
          have c1 := (hBX.out.next hb.out).c1
          have e0 := (hRC.out.next hb.out).co k _ heH.out
          have v0 := (hRC.out.next hb.out).cv k _ hfH.out
          go_wp2_with fail
          go_roundw
          case rel => exact ⟨k + 1, by omega, by go_num, by rw [hsuN.out], by rw [hbyN.out], hnew, by rw [hbyN.out]; omega, hb⟩
          case measure => simp [intOf]; omega
    · have hab : E < k := by omega
      have mn : min (k : Int) (E : Int) = (E : Int) := by omega
      have mx : max (k : Int) (E : Int) = (k : Int) := by omega
      have q5 : ¬ (k : Int) < (E : Int) := by omega
      have hsuN := sumR_gt (l := l) heq.out (by omega)
      have ht2 := htw.out E k (by omega) (by omega)
      have hwI := whI_eq hyH.out hxH.out
      rw [hwI] at ht2
      have hcb := cst_bd hnum.out E k
      obtain ⟨K, hK⟩ : ∃ K, cst l E k = K := ⟨_, rfl⟩
      obtain ⟨T, hT⟩ : ∃ T, whiteI y x E k = T := ⟨_, rfl⟩
      rw [hK] at hcb ht2
      rw [hT] at ht2
      rw [hS.out] at hsuN
      have hCo : Hid (∀ W, Below w1.heap.size w1 W → Calls Tryd.prog 38 #[.slice A l.length c, .int .i64 (k : Int), .int .i64 (E : Int)] W fun e w' => e = .returned (.int .i64 K) ∧ Below W.heap.size W w') := fun W h => hK ▸ (hFW.out.next h).pcost hvH.out hab (by omega) mn mx
      have hCl : Hid (∀ W, Below w1.heap.size w1 W → Calls Tryd.prog 35 #[.slice A l.length c, .int .i64 (E : Int), .int .i64 (k : Int)] W fun e w' => e = .returned (.tuple #[.int .i64 T, .int .i64 (colC y x)]) ∧ Below W.heap.size W w') := fun W h => hT ▸ pcolors A l c E k y x W (hFW.out.next h).fld.row hyH.out hxH.out (hnum.out y (List.mem_of_getElem? hyH.out)).1 (hnum.out x (List.mem_of_getElem? hxH.out)).1 hFW.out.len
      obtain ⟨CC, hCC⟩ : ∃ C, colC y x = C := ⟨_, rfl⟩
      rw [hCC] at hCl
      clear hCC
      replace hsuN := Lib.hid hsuN
      replace ht2 := Lib.hid ht2
      replace hK := Lib.hid hK
      replace hT := Lib.hid hT
      clear hwI
      by_cases hK1 : K = -1
      · have hV : Hid (valR l o v = -1) := valR_row hkn fun h => (ht2.out.1 (hiff.out.1 h)).2.2.2.1 hK1
        have q6 : (K == -1) = true := by rw [beq_iff_eq]; exact hK1
        clear hK1
        go_wp2_with (first | (go_at_call 30; refine (pwithin _ _ _ _).mono ?_; rintro e' w' ⟨rfl, rfl⟩))
        go_at_call 38
        refine (hCo.out _ hb.out).mono ?_
        rintro e u ⟨rfl, hbn⟩
        replace hb := Lib.hid (hb.out.trans (hbn.mono hb.out.size))
        clear hbn
        clear c0 c1 e0 v0
        have c0 := (hBX.out.next hb.out).c0
        have c1 := (hBX.out.next hb.out).c1
        have e0 := (hRC.out.next hb.out).co k _ heH.out
        have v0 := (hRC.out.next hb.out).cv k _ hfH.out
        go_wp2_with fail
        go_ret
        exact ⟨PC.ri hV.out.symm, hb1.out.trans (hb.out.mono hb1.out.size)⟩
      have q6 : (K == -1) = false := by rw [beq_eq_false_iff_ne]; exact hK1
      replace hK1 := Lib.hid hK1
      cases hTk : (T == (k : Int)) with
      | true =>
        cases f with
        | true =>
          have hnew : Hid (∀ j, j < k + 1 → okR l o v j) := fun j hj => by
            by_cases e : j = k
            · subst e; exact hiff.out.2 (ht2.out.2 ⟨hEn, hEk, n4.out, hK1.out, by rw [hTk]⟩)
            · exact hgood.out j (by omega)
          go_wp2_with (first | (go_at_call 30; refine (pwithin _ _ _ _).mono ?_; rintro e' w' ⟨rfl, rfl⟩))
          go_at_call 38
          refine (hCo.out _ hb.out).mono ?_
          rintro e u ⟨rfl, hbn⟩
          replace hb := Lib.hid (hb.out.trans (hbn.mono hb.out.size))
          clear hbn
          clear c0 c1 e0 v0
          have c0 := (hBX.out.next hb.out).c0
          have c1 := (hBX.out.next hb.out).c1
          have e0 := (hRC.out.next hb.out).co k _ heH.out
          have v0 := (hRC.out.next hb.out).cv k _ hfH.out
          go_wp2_with fail
          go_at_call 35
          refine (hCl.out _ hb.out).mono ?_
          rintro e u ⟨rfl, hbn⟩
          replace hb := Lib.hid (hb.out.trans (hbn.mono hb.out.size))
          clear hbn
          clear c0 c1 e0 v0
          have c0 := (hBX.out.next hb.out).c0
          have c1 := (hBX.out.next hb.out).c1
          have e0 := (hRC.out.next hb.out).co k _ heH.out
          have v0 := (hRC.out.next hb.out).cv k _ hfH.out
          go_wp2_with fail
          go_roundw
          case rel => exact ⟨k + 1, by omega, by go_num, by rw [hsuN.out], by rw [hbyN.out], hnew, by rw [hbyN.out]; omega, hb⟩
          case measure => simp [intOf]; omega
        | false =>
          have hV : Hid (valR l o v = -1) := valR_row hkn fun h => by have h9 := (ht2.out.1 (hiff.out.1 h)).2.2.2.2; rw [hTk] at h9; cases h9
          go_wp2_with (first | (go_at_call 30; refine (pwithin _ _ _ _).mono ?_; rintro e' w' ⟨rfl, rfl⟩))
          go_at_call 38
          refine (hCo.out _ hb.out).mono ?_
          rintro e u ⟨rfl, hbn⟩
          replace hb := Lib.hid (hb.out.trans (hbn.mono hb.out.size))
          clear hbn
          clear c0 c1 e0 v0
          have c0 := (hBX.out.next hb.out).c0
          have c1 := (hBX.out.next hb.out).c1
          have e0 := (hRC.out.next hb.out).co k _ heH.out
          have v0 := (hRC.out.next hb.out).cv k _ hfH.out
          go_wp2_with fail
          go_at_call 35
          refine (hCl.out _ hb.out).mono ?_
          rintro e u ⟨rfl, hbn⟩
          replace hb := Lib.hid (hb.out.trans (hbn.mono hb.out.size))
          clear hbn
          clear c0 c1 e0 v0
          have c0 := (hBX.out.next hb.out).c0
          have c1 := (hBX.out.next hb.out).c1
          have e0 := (hRC.out.next hb.out).co k _ heH.out
          have v0 := (hRC.out.next hb.out).cv k _ hfH.out
          go_wp2_with fail
          go_ret
          exact ⟨PC.ri hV.out.symm, hb1.out.trans (hb.out.mono hb1.out.size)⟩
      | false =>
        cases f with
        | true =>
          have hV : Hid (valR l o v = -1) := valR_row hkn fun h => by have h9 := (ht2.out.1 (hiff.out.1 h)).2.2.2.2; rw [hTk] at h9; cases h9
          go_wp2_with (first | (go_at_call 30; refine (pwithin _ _ _ _).mono ?_; rintro e' w' ⟨rfl, rfl⟩))
          go_at_call 38
          refine (hCo.out _ hb.out).mono ?_
          rintro e u ⟨rfl, hbn⟩
          replace hb := Lib.hid (hb.out.trans (hbn.mono hb.out.size))
          clear hbn
          clear c0 c1 e0 v0
          have c0 := (hBX.out.next hb.out).c0
          have c1 := (hBX.out.next hb.out).c1
          have e0 := (hRC.out.next hb.out).co k _ heH.out
          have v0 := (hRC.out.next hb.out).cv k _ hfH.out
          go_wp2_with fail
          go_at_call 35
          refine (hCl.out _ hb.out).mono ?_
          rintro e u ⟨rfl, hbn⟩
          replace hb := Lib.hid (hb.out.trans (hbn.mono hb.out.size))
          clear hbn
          clear c0 c1 e0 v0
          have c0 := (hBX.out.next hb.out).c0
          have c1 := (hBX.out.next hb.out).c1
          have e0 := (hRC.out.next hb.out).co k _ heH.out
          have v0 := (hRC.out.next hb.out).cv k _ hfH.out
          go_wp2_with fail
          go_ret
          exact ⟨PC.ri hV.out.symm, hb1.out.trans (hb.out.mono hb1.out.size)⟩
        | false =>
          have hnew : Hid (∀ j, j < k + 1 → okR l o v j) := fun j hj => by
            by_cases e : j = k
            · subst e; exact hiff.out.2 (ht2.out.2 ⟨hEn, hEk, n4.out, hK1.out, by rw [hTk]⟩)
            · exact hgood.out j (by omega)
          go_wp2_with (first | (go_at_call 30; refine (pwithin _ _ _ _).mono ?_; rintro e' w' ⟨rfl, rfl⟩))
          go_at_call 38
          refine (hCo.out _ hb.out).mono ?_
          rintro e u ⟨rfl, hbn⟩
          replace hb := Lib.hid (hb.out.trans (hbn.mono hb.out.size))
          clear hbn
          clear c0 c1 e0 v0
          have c0 := (hBX.out.next hb.out).c0
          have c1 := (hBX.out.next hb.out).c1
          have e0 := (hRC.out.next hb.out).co k _ heH.out
          have v0 := (hRC.out.next hb.out).cv k _ hfH.out
          go_wp2_with fail
          go_at_call 35
          refine (hCl.out _ hb.out).mono ?_
          rintro e u ⟨rfl, hbn⟩
          replace hb := Lib.hid (hb.out.trans (hbn.mono hb.out.size))
          clear hbn
          clear c0 c1 e0 v0
          have c0 := (hBX.out.next hb.out).c0
          have c1 := (hBX.out.next hb.out).c1
          have e0 := (hRC.out.next hb.out).co k _ heH.out
          have v0 := (hRC.out.next hb.out).cv k _ hfH.out
          go_wp2_with fail
          go_roundw
          case rel => exact ⟨k + 1, by omega, by go_num, by rw [hsuN.out], by rw [hbyN.out], hnew, by rw [hbyN.out]; omega, hb⟩
          case measure => simp [intOf]; omega
end Go.Proofs.YtjjjdoealagpcaaDoor
