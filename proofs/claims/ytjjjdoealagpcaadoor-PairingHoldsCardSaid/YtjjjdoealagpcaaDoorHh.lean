/- Layer 43: all pairings, walked. -/
import Derived.Test.YtjjjdoealagpcaaDoorHg
namespace Go.Proofs.YtjjjdoealagpcaaDoor
open Go Go.RowKit
set_option linter.unusedSimpArgs false
set_option linter.unusedVariables false
attribute [local go_sem ↓] Go.wp_at_zero Go.wp_at_succ
theorem WR.one {w : World} {b c : Nat} {l : List Int} (h : TRow w b l) (t : TypeId) : WR (w.alloc (.cells #[.slice (some ⟨b, 0, none⟩) l.length c] t)) (some ⟨w.heap.size, 0, none⟩) l.length [⟨b, c, l⟩] [l] :=
  ⟨recs_one (f := wEnc l.length) (g := fun y : Wy => .slice (some ⟨y.b, 0, none⟩) l.length y.c) (fun _ => rfl) w ⟨b, c, l⟩ t, fun y hy => by
    obtain rfl := List.mem_singleton.1 hy
    exact h.next ((Below.refl _ _).alloc (Nat.le_refl _) _), rfl⟩
theorem WR.nil (w : World) (n : Nat) : WR w none n [] [] := ⟨fun h => absurd h (by simp), fun y hy => absurd hy (List.not_mem_nil), rfl⟩
theorem WO.wr {w0 w : World} {A : Option Addr} {n c : Nat} {ys : List Wy} {ws : List (List Int)} (h : WO w0 w A n c ys ws) : WR w A n ys ws := ⟨h.own.recs (wEnc_len n), h.rows, h.ls⟩
set_option maxRecDepth 100000 in
set_option maxHeartbeats 4000000 in
theorem pall_full (now : List Int) (free : Bool) (b c n : Nat) (w : World) (hR : TRow w b now) (hn : now.length = n) (h7 : n ≤ 7) (hno : ∀ (k : Nat) (x : Int), now[k]? = some x → x ≠ -2) :
    Calls Tryd.prog 36 #[.slice (some ⟨b, 0, none⟩) n c, .bool free] w fun e w' => AllP n (if free then [] else [now]) e w w' := by
  have hRH := Lib.hid hR
  have hnoH := Lib.hid hno
  have hnH := Lib.hid hn
  have hq : ((n : Int) == (n : Int)) = true := beq_self_eq_true _
  clear hno hn hR
  go_enter Tryd.func36, Tryd.ntmps36
  go_wp2_with fail
  go_loop [5] (fun i => ∃ k : Nat, k ≤ n ∧ i = .int .i64 k) (fun i => n - (intOf i).toNat)
  case atStart => exact ⟨0, by omega, rfl⟩
  case round =>
    obtain ⟨k, hk, rfl⟩ := hrel
    have hk0 : (0 : Int) ≤ (k : Int) := Int.natCast_nonneg _
    by_cases hkn : k < n
    · obtain ⟨x, hx⟩ : ∃ x, now[k]? = some x := ⟨_, List.getElem?_eq_getElem (by rw [hnH.out]; exact hkn)⟩
      have c0 := hRH.out.cell hx
      have q1 : (x != -2) = true := by rw [bne_iff_ne]; exact hnoH.out k x hx
      have hkI : (k : Int) < (n : Int) := by omega
      clear hx
      go_wp2_with fail
      go_round
      case rel => exact ⟨k + 1, by omega, by go_num⟩
      case measure => simp [intOf]; omega
    obtain rfl : k = n := by omega
    cases free with
    | true =>
      go_wp2_with fail
      go_ret
      exact ⟨⟨none, 0, [], rfl, WR.nil _ _⟩, Below.refl _ _⟩
    | false =>
      have hW : Hid (WR (w.alloc (.cells #[.slice (some ⟨b, 0, none⟩) k c] 23)) (some ⟨w.heap.size, 0, none⟩) k [⟨b, c, now⟩] [now]) := by
        have := WR.one (c := c) hRH.out 23
        rw [hnH.out] at this
        exact this
      go_wp2_with fail
      go_ret
      exact ⟨⟨some ⟨w.heap.size, 0, none⟩, 1, [⟨b, c, now⟩], rfl, hW.out⟩, (Below.refl _ _).alloc (Nat.le_refl _) _⟩
set_option maxRecDepth 100000 in
set_option maxHeartbeats 8000000 in
theorem pall_some (m : Nat) (now : List Int) (free : Bool) (b c n I : Nat) (w : World) (hR : TRow w b now) (hn : now.length = n) (h7 : n ≤ 7) (hm : m ≤ 6) (hI : now[I]? = some (-2)) (hlt : ∀ (j : Nat) (x : Int), j < I → now[j]? = some x → x ≠ -2) (hcnt : now.count (-2) ≤ m + 1)
    (IH : ∀ (now' : List Int) (free' : Bool) (b' c' : Nat) (W : World), now'.length = n → now'.count (-2) ≤ m → TRow W b' now' → Calls Tryd.prog 36 #[.slice (some ⟨b', 0, none⟩) n c', .bool free'] W fun e w' => AllP n (allW m now' free') e W w') :
    Calls Tryd.prog 36 #[.slice (some ⟨b, 0, none⟩) n c, .bool free] w fun e w' => AllP n (allW (m + 1) now free) e w w' := by
  have hIn : I < n := by have := (List.getElem?_eq_some_iff.1 hI).1; omega
  have hP : Hid (allW (m + 1) now free = partW m now free I (n - (I + 1))) := by
    have := allW_part m (free := free) (fst2_is hI hlt) (by omega)
    rw [hn] at this
    exact this
  have hRH := Lib.hid hR
  have hltH := Lib.hid hlt
  have hnH := Lib.hid hn
  have hIH := Lib.hid hI
  have IHH := Lib.hid IH
  have hcH := Lib.hid hcnt
  have hII : (I : Int) < (n : Int) := by omega
  have hI0 : (0 : Int) ≤ (I : Int) := Int.natCast_nonneg _
  have cI := hR.cell hI
  have hqI : ((I : Int) == (n : Int)) = false := by rw [beq_eq_false_iff_ne]; omega
  have gI : IntKind.i64.wrap ((I : Int) + 1) = ((I + 1 : Nat) : Int) := IntWalk.i64_in _ (by omega)
  clear hlt hn hR hI IH hcnt
  go_enter Tryd.func36, Tryd.ntmps36
  go_wp2_with fail
  go_loop [5] (fun i => ∃ k : Nat, k ≤ I ∧ i = .int .i64 k) (fun i => n - (intOf i).toNat)
  case atStart => exact ⟨0, by omega, rfl⟩
  case round =>
    obtain ⟨k, hk, rfl⟩ := hrel
    have hk0 : (0 : Int) ≤ (k : Int) := Int.natCast_nonneg _
    by_cases hkn : k < I
    · obtain ⟨x, hx⟩ : ∃ x, now[k]? = some x := ⟨_, List.getElem?_eq_getElem (by rw [hnH.out]; omega)⟩
      have c0 := hRH.out.cell hx
      have q1 : (x != -2) = true := by rw [bne_iff_ne]; exact hltH.out k x hkn hx
      have hkI : (k : Int) < (n : Int) := by omega
      clear hx cI
      go_wp2_with fail
      go_round
      case rel => exact ⟨k + 1, by omega, by go_num⟩
      case measure => simp [intOf]; omega
    obtain rfl : k = I := by omega
    cases free with
    | true =>
      go_upto_region 11 with (at_builtin; refine wpList_append_recs intRow iEnc_len iEnc_one rfl _ _ rfl w.heap.size none 0 [] rfl owns_nil (some ⟨b, 0, none⟩) c now (by rw [hnH.out]; rfl) (hRH.out).recs (by simp only [List.length_nil]; have := hnH.out; omega) (Nat.le_refl _) ?_; intro A2 c2 w2 hown hg _; rw [List.nil_append] at hown; rw [show ([] ++ now : List Int).length = n from by rw [List.nil_append]; exact hnH.out]; have hN : Hid (O1 iEnc 1 w.heap.size 3 w w2 A2 c2 now) := (O1.nil (Below.refl _ _) (Nat.le_refl _)).app hown hg; clear hown hg)
      obtain ⟨g, rfl, hg1, hg2⟩ := hN.out.form (by have := hnH.out; omega)
      have q0 := hN.out.cell1 (g := fun x => Value.int .i64 x) (fun _ => rfl) hIH.out
      have q1 := World.ownsRow.frozenAt hN.out.own k
      have hN2 : Hid (O1 iEnc 1 w.heap.size 3 w (w2.setCell ⟨g, k, none⟩ (.int .i64 (-1))) (some ⟨g, 0, none⟩) c2 (now.set k (-1))) := hN.out.set1 (g := fun x => Value.int .i64 x) (fun _ => rfl) k (-1) rfl
      have hc2 : Hid ((now.set k (-1)).count (-2) ≤ m) := by have h1 := cnt_set hIH.out (x := -1) (by decide); have h2 := hcH.out; show _ ≤ _; omega
      go_upto_region 12 with fail
      clear q0 q1 cI hN
      generalize w2.setCell ⟨g, k, none⟩ (.int .i64 (-1)) = w3 at *
      have hCA : Hid (Calls Tryd.prog 36 #[.slice (some ⟨g, 0, none⟩) n c2, .bool false] w3 fun e w' => AllP n (allW m (now.set k (-1)) false) e w3 w') := IHH.out (now.set k (-1)) false g c2 w3 (by rw [List.length_set]; exact hnH.out) hc2.out hN2.out.trow
      go_wp2_with fail
      go_at_call 36
      refine hCA.out.mono ?_
      rintro e w4 hap
      obtain ⟨⟨R, cR, ys2, rfl, hWR⟩, hb4⟩ := hap
      have hO4 : Hid (WO w w4 none n 0 [] []) := ⟨O1.nil (hN2.out.below.trans (hb4.mono hN2.out.size)) (Nat.le_trans hN2.out.size hb4.size), fun y hy => absurd hy (List.not_mem_nil), rfl⟩
      replace hWR := Lib.hid hWR
      have hlen2 : Hid (ys2.length ≤ 823543) := by
        have h1 := congrArg List.length hWR.out.ls
        rw [List.length_map] at h1
        have h2 := partW_bd (m := m) (now := now) (free := true) (i := k) (d := 0) (by have := hnH.out; omega) hm (by have := hnH.out; omega)
        rw [partW_zero] at h2
        show _ ≤ _
        rw [h1]; exact h2
      clear hb4 hN2 hCA hc2
      go_upto_region 13 with (at_builtin; refine wpList_append_recs wayRow (wEnc_len n) (wEnc_one n) rfl _ _ rfl w.heap.size none 0 [] rfl hO4.out.own.own R cR ys2 rfl hWR.out.row (by have := hlen2.out; simp only [List.length_nil]; omega) hO4.out.own.size ?_; intro A5 c5 w5 hown hg _; have hS : Hid (WO w w5 A5 n c5 ys2 (partW m now true k 0)) := (by have h1 := hO4.out.app hWR.out hown hg; rw [List.nil_append, List.nil_append] at h1; show WO _ _ _ _ _ _ _; rw [partW_zero]; exact h1); rw [show ([] ++ ys2 : List Wy).length = ys2.length from rfl]; clear hown hg)
      clear hO4 hWR hlen2

      go_wp2_with fail
      go_loopw [6, 8] (fun s i wr => ∃ (d : Nat) (A : Option Addr) (co : Nat) (ys : List Wy), k + 1 + d ≤ n ∧ i = .int .i64 ((k + 1 + d : Nat) : Int) ∧ s = .slice A ys.length co ∧ Hid (WO w wr A n co ys (partW m now true k d))) (fun _ i _ => n - (intOf i).toNat)
      case atStart => exact ⟨0, _, _, _, by omega, rfl, rfl, hS⟩
      case round =>
        clear hS
        obtain ⟨d, A, co, ys, hd, rfl, rfl, hO⟩ := hrel
        obtain ⟨J, hJ⟩ : ∃ J, k + 1 + d = J := ⟨_, rfl⟩
        rw [hJ] at hd
        simp only [hJ]
        have hJ0 : (0 : Int) ≤ (J : Int) := Int.natCast_nonneg _
        by_cases hJn : J < n
        rotate_left
        · have hfin : Hid (WO w wr A n co ys (allW (m + 1) now true)) := by
            show WO _ _ _ _ _ _ _
            rw [hP.out, show n - (k + 1) = d by omega]; exact hO.out
          go_wp2_with fail
          go_ret
          exact ⟨⟨A, co, ys, rfl, hfin.out.wr⟩, hfin.out.own.below⟩
        obtain ⟨x, hx⟩ : ∃ x, now[J]? = some x := ⟨_, List.getElem?_eq_getElem (by rw [hnH.out]; exact hJn)⟩
        have hNow : Hid (TRow wr b now) := hRH.out.of_block (hO.out.own.below.block b hRH.out.lt)
        have c0 := hNow.out.cell hx
        have hJI : (J : Int) < (n : Int) := by omega
        have hsu : Hid (partW m now true k (d + 1) = partW m now true k d ++ grpW m now true k J) := by have := partW_succ m now true k d; rw [hJ] at this; exact this
        have hxg : now.getD J 0 = x := by rw [List.getD_eq_getElem?_getD, hx]; rfl
        by_cases h2 : x = -2
        rotate_left
        · have q1 : (x == -2) = false := by rw [beq_eq_false_iff_ne]; exact h2
          have hnew : Hid (WO w wr A n co ys (partW m now true k (d + 1))) := by
            show WO _ _ _ _ _ _ _
            rw [hsu.out, show grpW m now true k J = [] from if_neg (by rw [hxg]; exact h2), List.append_nil]; exact hO.out
          replace hJ := Lib.hid hJ
          clear hx h2 hxg
          try clear cI
          go_wp2_with fail
          go_roundw
          case rel => exact ⟨d + 1, A, co, ys, by have := hJ.out; omega, by rw [show k + 1 + (d + 1) = J + 1 by have := hJ.out; omega]; go_num, rfl, hnew⟩
          case measure => simp [intOf]; omega
        subst h2
        replace hx := Lib.hid hx
        have hgr : Hid (grpW m now true k J = allW m ((now.set k (J : Int)).set J (k : Int)) true) := if_pos hxg
        have hne : k ≠ J := by omega
        replace hJ := Lib.hid hJ
        clear hxg
        try clear cI
        go_upto_region 18 with (at_builtin; refine wpList_append_recs intRow iEnc_len iEnc_one rfl _ _ rfl wr.heap.size none 0 [] rfl owns_nil (some ⟨b, 0, none⟩) c now (by rw [hnH.out]; rfl) (hNow.out).recs (by simp only [List.length_nil]; have := hnH.out; omega) (Nat.le_refl _) ?_; intro A2 c2 w2 hown hg _; rw [List.nil_append] at hown; rw [show ([] ++ now : List Int).length = n from by rw [List.nil_append]; exact hnH.out]; have hN : Hid (O1 iEnc 1 wr.heap.size 3 wr w2 A2 c2 now) := (O1.nil (Below.refl _ _) (Nat.le_refl _)).app hown hg; clear hown hg)
        clear c0
        obtain ⟨g, rfl, hg1, hg2⟩ := hN.out.form (by have := hnH.out; omega)
        have q0 := hN.out.cell1 (g := fun x => Value.int .i64 x) (fun _ => rfl) hIH.out
        have q1 := World.ownsRow.frozenAt hN.out.own k
        have hN1 : Hid (O1 iEnc 1 wr.heap.size 3 wr (w2.setCell ⟨g, k, none⟩ (.int .i64 (J : Int))) (some ⟨g, 0, none⟩) c2 (now.set k (J : Int))) := hN.out.set1 (g := fun x => Value.int .i64 x) (fun _ => rfl) k (J : Int) rfl
        have q2 := hN1.out.cell1 (g := fun x => Value.int .i64 x) (fun _ => rfl) (k := J) (x := -2) (by rw [List.getElem?_set_ne hne]; exact hx.out)
        have q3 := World.ownsRow.frozenAt hN1.out.own J
        have q4 := hN.out.cell1 (g := fun x => Value.int .i64 x) (fun _ => rfl) hx.out
        have q5 := World.ownsRow.frozenAt hN.out.own J
        have hN2 : Hid (O1 iEnc 1 wr.heap.size 3 wr ((w2.setCell ⟨g, k, none⟩ (.int .i64 (J : Int))).setCell ⟨g, J, none⟩ (.int .i64 (k : Int))) (some ⟨g, 0, none⟩) c2 ((now.set k (J : Int)).set J (k : Int))) := hN1.out.set1 (g := fun x => Value.int .i64 x) (fun _ => rfl) J (k : Int) rfl
        have hc2 : Hid (((now.set k (J : Int)).set J (k : Int)).count (-2) ≤ m) := by
          have h1 := cnt_set hIH.out (x := (J : Int)) (by omega)
          have h2 := hcH.out
          have h3 := cnt_le (now := now.set k (J : Int)) (i := J) (x := (k : Int)) (by omega)
          show _ ≤ _; omega
        go_upto_region 19 with fail
        clear q0 q1 q2 q3 q4 q5 hN1 hN
        generalize (w2.setCell ⟨g, k, none⟩ (.int .i64 (J : Int))).setCell ⟨g, J, none⟩ (.int .i64 (k : Int)) = w3 at *
        have hCA : Hid (Calls Tryd.prog 36 #[.slice (some ⟨g, 0, none⟩) n c2, .bool true] w3 fun e w' => AllP n (allW m ((now.set k (J : Int)).set J (k : Int)) true) e w3 w') := IHH.out ((now.set k (J : Int)).set J (k : Int)) true g c2 w3 (by rw [List.length_set, List.length_set]; exact hnH.out) hc2.out hN2.out.trow
        go_wp2_with fail
        go_at_call 36
        refine hCA.out.mono ?_
        rintro e w4 hap
        obtain ⟨⟨R, cR, ys2, rfl, hWR⟩, hb4⟩ := hap
        have hO4 : Hid (WO w w4 A n co ys (partW m now true k d)) := hO.out.next (hN2.out.below.trans (hb4.mono hN2.out.size))
        replace hWR := Lib.hid hWR
        have hlen2 : Hid (ys.length + ys2.length ≤ 823543) := by
          have h1 := congrArg List.length hWR.out.ls
          have h1' := congrArg List.length hO4.out.ls
          rw [List.length_map] at h1 h1'
          have h2 := partW_bd (m := m) (now := now) (free := true) (i := k) (d := d + 1) (by have := hnH.out; omega) hm (by have := hnH.out; have := hJ.out; omega)
          rw [hsu.out, List.length_append, hgr.out] at h2
          show _ ≤ _
          omega
        have hsu2 : Hid (partW m now true k d ++ allW m ((now.set k (J : Int)).set J (k : Int)) true = partW m now true k (d + 1)) := by
          show _ = _
          rw [hsu.out, hgr.out]
        clear hb4 hN2 hCA hc2 hO
        go_wp2_with (at_builtin; refine wpList_append_recs wayRow (wEnc_len n) (wEnc_one n) rfl _ _ rfl w.heap.size A co ys rfl hO4.out.own.own R cR ys2 rfl hWR.out.row (by have := hlen2.out; omega) hO4.out.own.size ?_; intro A5 c5 w5 hown hg _; have hS : Hid (WO w w5 A5 n c5 (ys ++ ys2) (partW m now true k (d + 1))) := (by have h1 := hO4.out.app hWR.out hown hg; rw [hsu2.out] at h1; exact h1); clear hown hg)
        go_roundw
        case rel => exact ⟨d + 1, A5, c5, ys ++ ys2, by have := hJ.out; omega, by rw [show k + 1 + (d + 1) = J + 1 by have := hJ.out; omega]; go_num, by rw [List.length_append], hS⟩
        case measure => simp [intOf]; omega
    | false =>
      have hS : Hid (WO w w none n 0 [] (partW m now false k 0)) := by
        show WO w w none n 0 [] (partW m now false k 0)
        rw [partW_zero]
        exact WO.nil w n
      go_wp2_with fail
      go_loopw [6, 8] (fun s i wr => ∃ (d : Nat) (A : Option Addr) (co : Nat) (ys : List Wy), k + 1 + d ≤ n ∧ i = .int .i64 ((k + 1 + d : Nat) : Int) ∧ s = .slice A ys.length co ∧ Hid (WO w wr A n co ys (partW m now false k d))) (fun _ i _ => n - (intOf i).toNat)
      case atStart => exact ⟨0, _, _, _, by omega, rfl, rfl, hS⟩
      case round =>
        clear hS
        obtain ⟨d, A, co, ys, hd, rfl, rfl, hO⟩ := hrel
        obtain ⟨J, hJ⟩ : ∃ J, k + 1 + d = J := ⟨_, rfl⟩
        rw [hJ] at hd
        simp only [hJ]
        have hJ0 : (0 : Int) ≤ (J : Int) := Int.natCast_nonneg _
        by_cases hJn : J < n
        rotate_left
        · have hfin : Hid (WO w wr A n co ys (allW (m + 1) now false)) := by
            show WO _ _ _ _ _ _ _
            rw [hP.out, show n - (k + 1) = d by omega]; exact hO.out
          go_wp2_with fail
          go_ret
          exact ⟨⟨A, co, ys, rfl, hfin.out.wr⟩, hfin.out.own.below⟩
        obtain ⟨x, hx⟩ : ∃ x, now[J]? = some x := ⟨_, List.getElem?_eq_getElem (by rw [hnH.out]; exact hJn)⟩
        have hNow : Hid (TRow wr b now) := hRH.out.of_block (hO.out.own.below.block b hRH.out.lt)
        have c0 := hNow.out.cell hx
        have hJI : (J : Int) < (n : Int) := by omega
        have hsu : Hid (partW m now false k (d + 1) = partW m now false k d ++ grpW m now false k J) := by have := partW_succ m now false k d; rw [hJ] at this; exact this
        have hxg : now.getD J 0 = x := by rw [List.getD_eq_getElem?_getD, hx]; rfl
        by_cases h2 : x = -2
        rotate_left
        · have q1 : (x == -2) = false := by rw [beq_eq_false_iff_ne]; exact h2
          have hnew : Hid (WO w wr A n co ys (partW m now false k (d + 1))) := by
            show WO _ _ _ _ _ _ _
            rw [hsu.out, show grpW m now false k J = [] from if_neg (by rw [hxg]; exact h2), List.append_nil]; exact hO.out
          replace hJ := Lib.hid hJ
          clear hx h2 hxg
          try clear cI
          go_wp2_with fail
          go_roundw
          case rel => exact ⟨d + 1, A, co, ys, by have := hJ.out; omega, by rw [show k + 1 + (d + 1) = J + 1 by have := hJ.out; omega]; go_num, rfl, hnew⟩
          case measure => simp [intOf]; omega
        subst h2
        replace hx := Lib.hid hx
        have hgr : Hid (grpW m now false k J = allW m ((now.set k (J : Int)).set J (k : Int)) false) := if_pos hxg
        have hne : k ≠ J := by omega
        replace hJ := Lib.hid hJ
        clear hxg
        try clear cI
        go_upto_region 18 with (at_builtin; refine wpList_append_recs intRow iEnc_len iEnc_one rfl _ _ rfl wr.heap.size none 0 [] rfl owns_nil (some ⟨b, 0, none⟩) c now (by rw [hnH.out]; rfl) (hNow.out).recs (by simp only [List.length_nil]; have := hnH.out; omega) (Nat.le_refl _) ?_; intro A2 c2 w2 hown hg _; rw [List.nil_append] at hown; rw [show ([] ++ now : List Int).length = n from by rw [List.nil_append]; exact hnH.out]; have hN : Hid (O1 iEnc 1 wr.heap.size 3 wr w2 A2 c2 now) := (O1.nil (Below.refl _ _) (Nat.le_refl _)).app hown hg; clear hown hg)
        clear c0
        obtain ⟨g, rfl, hg1, hg2⟩ := hN.out.form (by have := hnH.out; omega)
        have q0 := hN.out.cell1 (g := fun x => Value.int .i64 x) (fun _ => rfl) hIH.out
        have q1 := World.ownsRow.frozenAt hN.out.own k
        have hN1 : Hid (O1 iEnc 1 wr.heap.size 3 wr (w2.setCell ⟨g, k, none⟩ (.int .i64 (J : Int))) (some ⟨g, 0, none⟩) c2 (now.set k (J : Int))) := hN.out.set1 (g := fun x => Value.int .i64 x) (fun _ => rfl) k (J : Int) rfl
        have q2 := hN1.out.cell1 (g := fun x => Value.int .i64 x) (fun _ => rfl) (k := J) (x := -2) (by rw [List.getElem?_set_ne hne]; exact hx.out)
        have q3 := World.ownsRow.frozenAt hN1.out.own J
        have q4 := hN.out.cell1 (g := fun x => Value.int .i64 x) (fun _ => rfl) hx.out
        have q5 := World.ownsRow.frozenAt hN.out.own J
        have hN2 : Hid (O1 iEnc 1 wr.heap.size 3 wr ((w2.setCell ⟨g, k, none⟩ (.int .i64 (J : Int))).setCell ⟨g, J, none⟩ (.int .i64 (k : Int))) (some ⟨g, 0, none⟩) c2 ((now.set k (J : Int)).set J (k : Int))) := hN1.out.set1 (g := fun x => Value.int .i64 x) (fun _ => rfl) J (k : Int) rfl
        have hc2 : Hid (((now.set k (J : Int)).set J (k : Int)).count (-2) ≤ m) := by
          have h1 := cnt_set hIH.out (x := (J : Int)) (by omega)
          have h2 := hcH.out
          have h3 := cnt_le (now := now.set k (J : Int)) (i := J) (x := (k : Int)) (by omega)
          show _ ≤ _; omega
        go_upto_region 19 with fail
        clear q0 q1 q2 q3 q4 q5 hN1 hN
        generalize (w2.setCell ⟨g, k, none⟩ (.int .i64 (J : Int))).setCell ⟨g, J, none⟩ (.int .i64 (k : Int)) = w3 at *
        have hCA : Hid (Calls Tryd.prog 36 #[.slice (some ⟨g, 0, none⟩) n c2, .bool false] w3 fun e w' => AllP n (allW m ((now.set k (J : Int)).set J (k : Int)) false) e w3 w') := IHH.out ((now.set k (J : Int)).set J (k : Int)) false g c2 w3 (by rw [List.length_set, List.length_set]; exact hnH.out) hc2.out hN2.out.trow
        go_wp2_with fail
        go_at_call 36
        refine hCA.out.mono ?_
        rintro e w4 hap
        obtain ⟨⟨R, cR, ys2, rfl, hWR⟩, hb4⟩ := hap
        have hO4 : Hid (WO w w4 A n co ys (partW m now false k d)) := hO.out.next (hN2.out.below.trans (hb4.mono hN2.out.size))
        replace hWR := Lib.hid hWR
        have hlen2 : Hid (ys.length + ys2.length ≤ 823543) := by
          have h1 := congrArg List.length hWR.out.ls
          have h1' := congrArg List.length hO4.out.ls
          rw [List.length_map] at h1 h1'
          have h2 := partW_bd (m := m) (now := now) (free := false) (i := k) (d := d + 1) (by have := hnH.out; omega) hm (by have := hnH.out; have := hJ.out; omega)
          rw [hsu.out, List.length_append, hgr.out] at h2
          show _ ≤ _
          omega
        have hsu2 : Hid (partW m now false k d ++ allW m ((now.set k (J : Int)).set J (k : Int)) false = partW m now false k (d + 1)) := by
          show _ = _
          rw [hsu.out, hgr.out]
        clear hb4 hN2 hCA hc2 hO
        go_wp2_with (at_builtin; refine wpList_append_recs wayRow (wEnc_len n) (wEnc_one n) rfl _ _ rfl w.heap.size A co ys rfl hO4.out.own.own R cR ys2 rfl hWR.out.row (by have := hlen2.out; omega) hO4.out.own.size ?_; intro A5 c5 w5 hown hg _; have hS : Hid (WO w w5 A5 n c5 (ys ++ ys2) (partW m now false k (d + 1))) := (by have h1 := hO4.out.app hWR.out hown hg; rw [hsu2.out] at h1; exact h1); clear hown hg)
        go_roundw
        case rel => exact ⟨d + 1, A5, c5, ys ++ ys2, by have := hJ.out; omega, by rw [show k + 1 + (d + 1) = J + 1 by have := hJ.out; omega]; go_num, by rw [List.length_append], hS⟩
        case measure => simp [intOf]; omega
theorem pall : ∀ (m : Nat) (now : List Int) (free : Bool) (b c n : Nat) (w : World), m ≤ 7 → n ≤ 7 → now.length = n → now.count (-2) ≤ m → TRow w b now →
    Calls Tryd.prog 36 #[.slice (some ⟨b, 0, none⟩) n c, .bool free] w fun e w' => AllP n (allW m now free) e w w'
  | 0, now, free, b, c, n, w, hm, h7, hn, hc, hR => pall_full now free b c n w hR hn h7 (fun k x hx he => by
      subst he
      have := List.count_pos_iff.2 (List.mem_of_getElem? hx)
      omega)
  | m + 1, now, free, b, c, n, w, hm, h7, hn, hc, hR => by
    rcases fst2_or now with h | ⟨I, hI, hlt⟩
    · rw [allW_full (m + 1) (fst2_none h)]
      exact pall_full now free b c n w hR hn h7 h
    · exact pall_some m now free b c n I w hR hn h7 (by omega) hI hlt hc (fun now' free' b' c' W hl' hc' hR' => pall m now' free' b' c' n W (by omega) h7 hl' hc' hR')
end Go.Proofs.YtjjjdoealagpcaaDoor
