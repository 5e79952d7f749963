/- Layer 27: slices.Compact at steps over a row of its own. -/
import Derived.Test.YtbcdimklblpdnaaDoorYn
import Derived.Laws.IdiomCopy
namespace Go.Proofs.YtbcdimklblpdnaaDoor
open Go Go.RowKit
set_option linter.unusedSimpArgs false
set_option linter.unusedVariables false
theorem compP_snoc (x : St) : ∀ (t : List St) (q : St), compP q (t ++ [x]) = if x = t.getLastD q then compP q t else compP q t ++ [x]
  | [], q => by
    show (if x = q then compP x [] else x :: compP x []) = if x = q then [] else [] ++ [x]
    split <;> rfl
  | y :: t, q => by
    have ih := compP_snoc x t y
    rw [List.cons_append, List.getLastD_cons]
    show (if y = q then compP y (t ++ [x]) else y :: compP y (t ++ [x])) = if x = t.getLastD y then (if y = q then compP y t else y :: compP y t) else (if y = q then compP y t else y :: compP y t) ++ [x]
    rw [ih]
    split <;> split <;> rfl
theorem compL_two (t : List St) (p x : St) : compL (t ++ [p] ++ [x]) = if x = p then compL (t ++ [p]) else compL (t ++ [p]) ++ [x] := by
  cases t with
  | nil =>
    show p :: (if x = p then compP x [] else x :: compP x []) = if x = p then [p] else [p] ++ [x]
    split <;> rfl
  | cons a t =>
    have h := compP_snoc x (t ++ [p]) a
    rw [List.getLastD_concat] at h
    show a :: compP a (t ++ [p] ++ [x]) = if x = p then a :: compP a (t ++ [p]) else (a :: compP a (t ++ [p])) ++ [x]
    rw [h]
    split <;> rfl
theorem compL_take {l : List St} {j : Nat} {p x : St} (hp : l[j]? = some p) (hx : l[j + 1]? = some x) : compL (l.take (j + 1 + 1)) = if x = p then compL (l.take (j + 1)) else compL (l.take (j + 1)) ++ [x] := by
  rw [take_step hx, take_step hp]
  exact compL_two _ _ _
theorem flat_set2 (e : St) : ∀ (L : List St) (k : Nat), ((flatR sEnc L).set (k * 2) (.int .i64 e.files)).set (k * 2 + 1) (.int .i64 e.ranks) = flatR sEnc (L.set k e)
  | [], k => rfl
  | y :: L, 0 => rfl
  | y :: L, k + 1 => by
    have ih := flat_set2 e L k
    show _ = sEnc y ++ flatR sEnc (L.set k e)
    rw [← ih]
    rw [show (k + 1) * 2 = k * 2 + 2 by omega]
    rfl
theorem O1.set2 {base : Nat} {T : TypeId} {w0 W : World} {g c : Nat} {L : List St} (h : O1 sEnc 2 base T w0 W (some ⟨g, 0, none⟩) c L) (k : Nat) (e : St) : O1 sEnc 2 base T w0 ((W.setCell ⟨g, k * 2, none⟩ (.int .i64 e.files)).setCell ⟨g, k * 2 + 1, none⟩ (.int .i64 e.ranks)) (some ⟨g, 0, none⟩) c (L.set k e) := by
  have one : ∀ {W : World} {xs : List Value} (hw : W.ownsRow base T 2 (.slice (some ⟨g, 0, none⟩) L.length c) L.length xs ∧ Below base w0 W ∧ base ≤ W.heap.size) (j : Nat) (u : Value),
      (W.setCell ⟨g, j, none⟩ u).ownsRow base T 2 (.slice (some ⟨g, 0, none⟩) L.length c) L.length (xs.set j u) ∧ Below base w0 (W.setCell ⟨g, j, none⟩ u) ∧ base ≤ (W.setCell ⟨g, j, none⟩ u).heap.size := by
    intro W xs hw j u
    obtain ⟨h1, h2⟩ := World.ownsRow.stored hw.1 j u
    exact ⟨h1, hw.2.1.grown h2 hw.2.2 (fun k hk => (World.ownsRow.lt hw.1 k hk).1), Nat.le_trans hw.2.2 h2.size⟩
  obtain ⟨r1, r2, r3⟩ := (one (one ⟨h.own, h.below, h.size⟩ (k * 2) (.int .i64 e.files)) (k * 2 + 1) (.int .i64 e.ranks))
  refine ⟨?_, r2, r3⟩
  unfold Own1
  rw [List.length_set, ← flat_set2 e L k]
  exact r1
theorem flat_take : ∀ (L : List St) (k : Nat), flatR sEnc (L.take k) = (flatR sEnc L).take (k * 2)
  | [], k => by simp [flatR]
  | y :: L, 0 => rfl
  | y :: L, k + 1 => by
    have ih := flat_take L k
    rw [show (k + 1) * 2 = k * 2 + 2 by omega]
    show sEnc y ++ flatR sEnc (L.take k) = _
    rw [ih]
    rfl
theorem O1.short {base : Nat} {T : TypeId} {w0 W : World} {g c : Nat} {L : List St} (h : O1 sEnc 2 base T w0 W (some ⟨g, 0, none⟩) c L) {k : Nat} (hk : k ≤ L.length) : O1 sEnc 2 base T w0 W (some ⟨g, 0, none⟩) c (L.take k) := by
  refine ⟨?_, h.below, h.size⟩
  rcases h.own.2 with ⟨h1, _⟩ | ⟨g', cap, cur, hv, hg, hb, hn, hcap, hsz, htk⟩
  · cases h1
  cases hv
  have hlk : (L.take k).length = k := by rw [List.length_take]; omega
  unfold Own1
  rw [hlk]
  refine ⟨by rw [flatR_length sEnc_len, hlk], .inr ⟨g, c, cur, rfl, hg, hb, by omega, hcap, hsz, ?_⟩⟩
  rw [flat_take, ← htk, List.take_take]
  congr 1
  omega
theorem O1.past {base : Nat} {T : TypeId} {w0 : World} {g c : Nat} {L : List St} : ∀ (vs : List Value) (W : World) (o : Nat), O1 sEnc 2 base T w0 W (some ⟨g, 0, none⟩) c L → L.length * 2 ≤ o → O1 sEnc 2 base T w0 (W.setCells g o vs) (some ⟨g, 0, none⟩) c L
  | [], W, o, h, ho => h
  | v :: vs, W, o, h, ho => by
    obtain ⟨h1, h2⟩ := World.ownsRow.stored h.own o v
    rw [List.set_eq_of_length_le (by rw [flatR_length sEnc_len]; exact ho)] at h1
    have h3 : O1 sEnc 2 base T w0 (W.setCell ⟨g, o, none⟩ v) (some ⟨g, 0, none⟩) c L := ⟨h1, h.below.grown h2 h.size (fun k hk => (World.ownsRow.lt h.own k hk).1), Nat.le_trans h.size h2.size⟩
    exact O1.past vs _ (o + 1) h3 (by omega)
theorem O1.cells {base : Nat} {T : TypeId} {w0 W : World} {g c : Nat} {L : List St} (h : O1 sEnc 2 base T w0 W (some ⟨g, 0, none⟩) c L) {k : Nat} {x : St} (hx : L[k]? = some x) : W.cell? ⟨g, k * 2, none⟩ = some (.int .i64 x.files) ∧ W.cell? ⟨g, k * 2 + 1, none⟩ = some (.int .i64 x.ranks) ∧ W.frozen? ⟨g, k * 2, none⟩ = false ∧ W.frozen? ⟨g, k * 2 + 1, none⟩ = false := by
  have hk : k < L.length := (List.getElem?_eq_some_iff.1 hx).1
  rcases h.own.2 with ⟨h1, _⟩ | ⟨g', cap, cur, hv, hg, hb, hn, hcap, hsz, htk⟩
  · cases h1
  cases hv
  have h2 := World.ownsRow.cellAt h.own (k * 2) (by omega)
  have h3 := World.ownsRow.cellAt h.own (k * 2 + 1) (by omega)
  rw [flatR_get sEnc_len L k x 1 hx (by decide)] at h3
  have h4 := flatR_get sEnc_len L k x 0 hx (by decide)
  rw [Nat.add_zero] at h4
  rw [h4] at h2
  exact ⟨h2, h3, by simp [World.frozen?, hb], by simp [World.frozen?, hb]⟩
theorem O1.some2 {base : Nat} {T : TypeId} {w0 W : World} {g c : Nat} {L : List St} (h : O1 sEnc 2 base T w0 W (some ⟨g, 0, none⟩) c L) {j : Nat} (hj : j < L.length * 2) : (W.cell? ⟨g, j, none⟩).isSome = true ∧ W.frozen? ⟨g, j, none⟩ = false := by
  rcases h.own.2 with ⟨h1, _⟩ | ⟨g', cap, cur, hv, hg, hb, hn, hcap, hsz, htk⟩
  · cases h1
  cases hv
  have h2 := World.ownsRow.cellAt h.own j (by omega)
  refine ⟨?_, by simp [World.frozen?, hb]⟩
  rw [h2, List.getElem?_eq_getElem (by rw [flatR_length sEnc_len]; exact hj)]
  rfl
theorem zc_len (u v : Value) : ∀ n, (Builtin.zeroCells #[u, v] n).size = n * 2 := by
  intro n
  simp [Builtin.zeroCells]
theorem zc_one (n : Nat) : ∀ u ∈ (Builtin.zeroCells #[.int .i64 0, .int .i64 0] n).toList, u.oneCell' = true := by
  intro u hu
  simp [Builtin.zeroCells] at hu
  obtain ⟨k, _, h⟩ := hu
  rcases Nat.mod_two_eq_zero_or_one k with e | e <;> rw [e] at h <;> subst h <;> rfl
theorem run_clear {w : World} {g off n c : Nat} (h0 : 0 < n) (hc : ∀ j, j < n * 2 → (w.cell? ⟨g, off + j, none⟩).isSome = true ∧ w.frozen? ⟨g, off + j, none⟩ = false) : ∃ vs : List Value, (Builtin.clear_ #[33] 0 #[.slice (some ⟨g, off, none⟩) n c]).run Tryd.prog w = .ok (.tuple #[]) (w.setCells g off vs) := by
  obtain ⟨n, rfl⟩ : ∃ m, n = m + 1 := ⟨n - 1, by omega⟩
  have hz : (Builtin.zeroCells #[.int .i64 0, .int .i64 0] (n + 1)).toList.length = (n + 1) * 2 := by rw [Array.length_toList, zc_len]
  have hs := run_storeCells_cells (P := Tryd.prog) g off (Builtin.zeroCells #[.int .i64 0, .int .i64 0] (n + 1)).toList 0 w (fun j hj => by rw [Nat.add_zero]; exact (hc j (by omega)).1) (fun j hj => by rw [Nat.add_zero]; exact (hc j (by omega)).2) (zc_one _)
  refine ⟨(Builtin.zeroCells #[.int .i64 0, .int .i64 0] (n + 1)).toList, ?_⟩
  have hu := run_underlying (P := Tryd.prog) Tryd.underlying33
  rw [Nat.add_zero] at hs
  simp [Builtin.clear_, hu, Tryd.zeroValue43, hs, Value.cells]
set_option maxRecDepth 100000 in
set_option maxHeartbeats 1000000 in
theorem pcompact {base c : Nat} {w0 w : World} {A : Option Addr} {l : List St} (h : O1 sEnc 2 base 43 w0 w A c l) (h0 : 0 < l.length) (hl : l.length ≤ 1000) :
    Calls Tryd.prog 46 #[.slice A l.length c] w fun e w' => e = .returned (.slice A (compL l).length c) ∧ O1 sEnc 2 base 43 w0 w' A c (compL l) := by
  obtain ⟨g, rfl, _, _⟩ := O1.form h h0
  have hO := Lib.hid h
  have hcl : l.length ≤ c := own_cap h.own h0
  have hone : Hid (compL (l.take 1) = l.take 1) := by
    show compL (l.take 1) = l.take 1
    cases l with
    | nil => rfl
    | cons a t => rfl
  clear h
  go_enter Tryd.func46, Tryd.ntmps46
  by_cases hn2 : l.length < 2
  · have hfin : Hid (compL l = l) := by
      have h1 : l.length = 1 := by omega
      have h2 := hone.out
      rw [← h1, List.take_length] at h2
      exact h2
    have q1 : ((l.length : Int) < 2) = True := eq_true (by omega)
    clear hn2
    go_wp2_with fail
    go_ret
    rw [hfin.out]
    exact ⟨rfl, hO.out⟩
  have q1 : ((l.length : Int) < 2) = False := eq_false (by omega)
  go_upto_region 3 with fail
  clear q1
  go_wp2_with fail
  go_loopw [3] (fun s wr => ∃ j : Nat, j + 1 ≤ l.length ∧ s = .int .i64 ((j : Int) + 1) ∧ Hid (compL (l.take (j + 1)) = l.take (j + 1)) ∧ Hid (O1 sEnc 2 base 43 w0 wr (some ⟨g, 0, none⟩) c l)) (fun s _ => l.length - (intOf s).toNat)
  case atStart => exact ⟨0, by omega, rfl, hone, hO⟩
  case round =>
    clear hone hO
    obtain ⟨j, hj, rfl, hcp, hO⟩ := hrel
    have hj0 : (0 : Int) ≤ (j : Int) := Int.natCast_nonneg _
    by_cases hjl : j + 1 < l.length
    rotate_left
    · have hfin : Hid (compL l = l) := by
        have h1 : l.length = j + 1 := by omega
        have h2 := hcp.out
        rw [← h1, List.take_length] at h2
        exact h2
      have q1 : ((j : Int) + 1 < (l.length : Int)) = False := eq_false (by omega)
      go_wp2_with fail
      go_ret
      rw [hfin.out]
      exact ⟨rfl, hO.out⟩
    have q1 : ((j : Int) + 1 < (l.length : Int)) = True := eq_true (by omega)
    obtain ⟨p, hp⟩ : ∃ p, l[j]? = some p := ⟨_, List.getElem?_eq_getElem (by omega)⟩
    obtain ⟨x, hx⟩ : ∃ x, l[j + 1]? = some x := ⟨_, List.getElem?_eq_getElem (by omega)⟩
    obtain ⟨x0, x1, _, _⟩ := hO.out.cells hx
    obtain ⟨p0, p1, _, _⟩ := hO.out.cells hp
    have htk := Lib.hid (compL_take hp hx)
    have hpH := Lib.hid hp
    have hxH := Lib.hid hx
    have heq := fun w => run_eql_stE x p w
    have hjl' : j < l.length := by omega
    clear hp hx
    by_cases hxp : x = p
    rotate_left
    · have hE := stE_no hxp
      have hnx : Hid (compL (l.take (j + 1 + 1)) = l.take (j + 1 + 1)) := by
        show compL (l.take (j + 1 + 1)) = l.take (j + 1 + 1)
        rw [htk.out, if_neg hxp, hcp.out, take_step hxH.out]
      clear hxp htk
      go_upto_region 6 with fail
      go_quiet (fail)
      go_wp2_with fail
      go_roundw
      case rel => exact ⟨j + 1, by omega, by go_num, hnx, Lib.hid (hO.out.drewN2 _)⟩
      case measure => simp [intOf]; omega
    have hE := stE_yes hxp
    have hst : Hid (compL (l.take (j + 1 + 1)) = l.take (j + 1)) := by
      show compL (l.take (j + 1 + 1)) = l.take (j + 1)
      rw [htk.out, if_pos hxp]; exact hcp.out
    clear hxp htk hcp
    go_upto_region 6 with fail
    go_quiet (fail)
    replace hO := Lib.hid (hO.out.drewN2 nq)
    generalize World.drewN wr nq = wq at *
    clear x0 x1 p0 p1 heq hE
    go_wp2_with fail
    obtain ⟨N, hN⟩ : ∃ N, l.length - (j + 1) = N := ⟨_, rfl⟩
    have hN2 : j + 1 + N = l.length := by omega
    rw [hN]
    clear hN q1
    go_loopw [3, 5] (fun s3 s5 wr => ∃ (i q : Nat) (m : List St), j + 1 ≤ i ∧ i ≤ j + 1 + q ∧ q + 1 ≤ N ∧ s3 = .int .i64 (i : Int) ∧ s5 = .int .i64 ((q : Int) + 1) ∧ m.length = l.length ∧ Hid (∀ t, i ≤ t → m[t]? = l[t]?) ∧ Hid (m.take i = compL (l.take (j + 1 + q + 1))) ∧ Hid (O1 sEnc 2 base 43 w0 wr (some ⟨g, 0, none⟩) c m)) (fun _ s _ => N - (intOf s).toNat)
    case atStart => exact ⟨j + 1, 0, l, by omega, by omega, by omega, by go_num, rfl, rfl, fun _ _ => rfl, hst.out.symm, hO⟩
    case round =>
      clear hO hst
      obtain ⟨i, q, m, hi1, hi2, hq, rfl, rfl, hml, hsm, htk, hO⟩ := hrel
      have hq0 : (0 : Int) ≤ (q : Int) := Int.natCast_nonneg _
      have hi0 : (0 : Int) ≤ (i : Int) := Int.natCast_nonneg _
      by_cases hqN : q + 1 < N
      rotate_left
      · have q1 : ((q : Int) + 1 < (N : Int)) = False := eq_false (by omega)
        have hfin : Hid (compL l = m.take i) := by
          have h1 := htk.out
          rw [show j + 1 + q + 1 = l.length by omega, List.take_length] at h1
          exact h1.symm
        have hiI : (i : Int) ≤ (l.length : Int) := by omega
        obtain ⟨vs, hclr⟩ := run_clear (w := wr) (g := g) (off := i * 2) (n := l.length - i) (c := c - i) (by omega) (fun t ht => hO.out.some2 (by omega))
        have hO2 := Lib.hid (O1.past vs wr (i * 2) (hO.out.short (k := i) (by omega)) (by rw [List.length_take]; omega))
        have hli : Hid ((m.take i).length = i) := by show (m.take i).length = i; rw [List.length_take]; omega
        clear hO htk
        go_wp2_with fail
        go_ret
        rw [hfin.out]
        exact ⟨by rw [hli.out]; rfl, hO2.out⟩
      have q1 : ((q : Int) + 1 < (N : Int)) = True := eq_true (by omega)
      obtain ⟨p, hp⟩ : ∃ p, l[j + 1 + q]? = some p := ⟨_, List.getElem?_eq_getElem (by omega)⟩
      obtain ⟨x, hx⟩ : ∃ x, l[j + 1 + q + 1]? = some x := ⟨_, List.getElem?_eq_getElem (by omega)⟩
      obtain ⟨v, hv⟩ : ∃ v, m[i]? = some v := ⟨_, List.getElem?_eq_getElem (by omega)⟩
      have hcx := hO.out.cells ((hsm.out (j + 1 + q + 1) (by omega)).trans hx)
      have hcp := hO.out.cells ((hsm.out (j + 1 + q) (by omega)).trans hp)
      rw [show (j + 1 + q + 1) * 2 = (j + 1) * 2 + (q + 1) * 2 by omega] at hcx
      rw [show (j + 1 + q) * 2 = (j + 1) * 2 + q * 2 by omega] at hcp
      obtain ⟨x0, x1, _, _⟩ := hcx
      obtain ⟨p0, p1, _, _⟩ := hcp
      obtain ⟨v0, v1, v2, v3⟩ := hO.out.cells hv
      have hct := Lib.hid (compL_take hp hx)
      have hxH := Lib.hid hx
      have heq := fun w => run_neq_stE x p w
      clear hp hx hv
      by_cases hxp : x = p
      · have hE := stE_yes hxp
        have hnx : Hid (m.take i = compL (l.take (j + 1 + (q + 1) + 1))) := by
          show m.take i = compL (l.take (j + 1 + q + 1 + 1))
          rw [hct.out, if_pos hxp]
          exact htk.out
        clear hxp hct htk
        go_upto_region 11 with fail
        go_quiet (fail)
        go_wp2_with fail
        go_roundw
        case rel => exact ⟨i, q + 1, m, by omega, by omega, by omega, rfl, by go_num, hml, hsm, hnx, Lib.hid (hO.out.drewN2 _)⟩
        case measure => simp [intOf]; omega
      have hE := stE_no hxp
      have hml2 : (m.set i x).length = l.length := by rw [List.length_set]; exact hml
      have hsm2 : Hid (∀ t, i + 1 ≤ t → (m.set i x)[t]? = l[t]?) := fun t ht => by
        rw [List.getElem?_set_ne (by omega)]
        exact hsm.out t (by omega)
      have hnx : Hid ((m.set i x).take (i + 1) = compL (l.take (j + 1 + (q + 1) + 1))) := by
        show (m.set i x).take (i + 1) = compL (l.take (j + 1 + q + 1 + 1))
        rw [hct.out, if_neg hxp, ← htk.out]
        rw [take_step (x := x) (by rw [List.getElem?_set_self (by omega)]), List.take_set_of_le (Nat.le_refl _)]
      clear hxp hct htk
      have hiI : (i : Int) < (l.length : Int) := by omega
      go_upto_region 11 with fail
      go_quiet (fail)
      replace hO := Lib.hid (hO.out.drewN2 nq)
      have y0 : (wr.drewN nq).cell? ⟨g, (j + 1) * 2 + (q + 1) * 2, none⟩ = some (.int .i64 x.files) := x0
      have y1 : (wr.drewN nq).cell? ⟨g, (j + 1) * 2 + (q + 1) * 2 + 1, none⟩ = some (.int .i64 x.ranks) := x1
      have y4 : (wr.drewN nq).cell? ⟨g, i * 2, none⟩ = some (.int .i64 v.files) := v0
      have y5 : (wr.drewN nq).cell? ⟨g, i * 2 + 1, none⟩ = some (.int .i64 v.ranks) := v1
      have y2 : (wr.drewN nq).frozen? ⟨g, i * 2, none⟩ = false := v2
      have y3 : (wr.drewN nq).frozen? ⟨g, i * 2 + 1, none⟩ = false := v3
      generalize World.drewN wr nq = wq at *
      clear x0 x1 p0 p1 v0 v1 v2 v3 heq hE
      go_wp2_with fail
      go_roundw
      case rel => exact ⟨i + 1, q + 1, m.set i x, by omega, by omega, by omega, by go_num, by go_num, hml2, hsm2, hnx, Lib.hid (hO.out.set2 i x)⟩
      case measure => simp [intOf]; omega

end Go.Proofs.YtbcdimklblpdnaaDoor
