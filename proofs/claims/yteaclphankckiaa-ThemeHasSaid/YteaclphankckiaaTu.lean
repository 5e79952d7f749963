/- Layer 35: the reference's palindrome and all. -/
import Derived.Test.YteaclphankckiaaTd
import Derived.Test.YteaclphankckiaaTl
import Derived.Test.YteaclphankckiaaTh
namespace Go.Proofs.Yteaclphankckiaa
open Go Go.RowKit
set_option linter.unusedSimpArgs false
set_option linter.unusedVariables false

theorem pal_yes {l : List Int} (h : ∀ j, j < l.length → l.getD j 0 = l.getD (l.length - 1 - j) 0) : pal l = true := by
  refine decide_eq_true (List.ext_getElem (by simp) fun j h1 h2 => ?_)
  have h3 := h j h1
  rw [List.getElem_reverse]
  simpa [List.getD, List.getElem?_eq_getElem h1, List.getElem?_eq_getElem (show l.length - 1 - j < l.length by omega)] using h3
theorem pal_no {l : List Int} {j : Nat} (hj : j < l.length) (h : l.getD j 0 ≠ l.getD (l.length - 1 - j) 0) : pal l = false := by
  refine decide_eq_false fun e => h ?_
  have h2 : l.reverse.getD j 0 = l.getD (l.length - 1 - j) 0 := by
    rw [List.getD, List.getD, List.getElem?_reverse hj]
  rw [← h2, ← e]
set_option maxRecDepth 100000 in
set_option maxHeartbeats 1000000 in
theorem rpal (A : Option Addr) (c : Nat) (l : List Int) (w : World) (hA : RecAt iEnc 1 w w.heap.size A l) (hl : l.length ≤ 100000) :
    Calls Try.prog 51 #[.slice A l.length c] w fun e w' => e = .returned (.bool (pal l)) ∧ Below w.heap.size w w' := by
  have hAH := Lib.hid hA
  clear hA
  obtain ⟨n, hn⟩ : ∃ n, l.length = n := ⟨_, rfl⟩
  rw [hn] at hl ⊢
  replace hn := Lib.hid hn
  go_enter Try.func51, Try.ntmps51
  go_wp2_with fail
  go_loopw [3] (fun s wr => ∃ k : Nat, k ≤ n ∧ s = .int .i64 k ∧ Hid (∀ j, j < k → l.getD j 0 = l.getD (l.length - 1 - j) 0) ∧ Hid (Below w.heap.size w wr)) (fun s _ => n - (intOf s).toNat)
  case atStart => exact ⟨0, Nat.zero_le _, rfl, (fun j hj => absurd hj (Nat.not_lt_zero j)), Below.refl _ _⟩
  case round =>
    obtain ⟨k, hk, rfl, hp, hbr⟩ := hrel
    by_cases hkn : k < n
    · obtain ⟨m, hm⟩ : ∃ m, n - 1 - k = m := ⟨_, rfl⟩
      have hmn : m < n := by omega
      obtain ⟨b, off, rfl, hb, _⟩ := hAH.out (by rw [hn.out]; omega)
      have hc := recs_getD hAH.out
      have m0 := (hbr.out.cell (p := ⟨b, off + k, none⟩) hb).trans (hc k (by rw [hn.out]; exact hkn))
      have m1 := (hbr.out.cell (p := ⟨b, off + m, none⟩) hb).trans (hc m (by rw [hn.out]; exact hmn))
      have hw1 : IntKind.i64.wrap ((n : Int) - 1) = (n : Int) - 1 := IntWalk.i64_in _ (by omega)
      have hw2 : IntKind.i64.wrap ((n : Int) - 1 - (k : Int)) = (m : Int) := by rw [show (n : Int) - 1 - (k : Int) = (m : Int) by omega]; exact IntWalk.i64_in _ (by omega)
      have hk0 : (0 : Int) ≤ (k : Int) := Int.natCast_nonneg _
      have hm0 : (0 : Int) ≤ (m : Int) := Int.natCast_nonneg _
      have hkI : (k : Int) < (n : Int) := by omega
      have hmI : (m : Int) < (n : Int) := by omega
      have hlm : l.length - 1 - k = m := by rw [hn.out]; exact hm
      have hkl : k < l.length := by rw [hn.out]; exact hkn
      obtain ⟨x, hx⟩ : ∃ x, l.getD k 0 = x := ⟨_, rfl⟩
      obtain ⟨y, hy⟩ : ∃ y, l.getD m 0 = y := ⟨_, rfl⟩
      rw [hx] at m0
      rw [hy] at m1
      by_cases hxy : x = y
      · have hE : (x != y) = false := by rw [bne_eq_false_iff_eq]; exact hxy
        have hp2 : Hid (∀ j, j < k + 1 → l.getD j 0 = l.getD (l.length - 1 - j) 0) := fun j hj => by
          by_cases e : j = k
          · rw [e, hlm, hx, hy, hxy]
          · exact hp.out j (by omega)
        clear hc hx hy hlm hkl hm
        replace hxy := Lib.hid hxy
        go_upto_region 4 with fail
        go_quiet (fail)
        go_wp2_with fail
        go_roundw
        case rel => exact ⟨k + 1, by omega, by go_num, hp2, below_drewN hbr.out _⟩
        case measure => simp [intOf]; omega
      · have hE : (x != y) = true := by rw [bne_iff_ne]; exact hxy
        have hfin : Hid (pal l = false) := pal_no hkl (by rw [hlm, hx, hy]; exact hxy)
        clear hc hx hy hlm hkl hm
        replace hxy := Lib.hid hxy
        go_upto_region 4 with fail
        go_quiet (fail)
        go_wp2_with fail
        go_ret
        exact ⟨rb hfin.out.symm, below_drewN hbr.out _⟩
    · obtain rfl : k = n := by omega
      have hfin : Hid (pal l = true) := pal_yes (by rw [hn.out]; have h := hp.out; rw [hn.out] at h; exact h)
      go_wp2_with fail
      go_ret
      exact ⟨rb hfin.out.symm, hbr.out⟩
/-- how often a piece has been promoted to in the first k moves -/
def cn (t : List Nd) (v : Int) : Nat → Int
  | 0 => 0
  | k + 1 => cn t v k + (match t[k]? with | some x => if nPr x = v then 1 else 0 | none => 0)
theorem cn_succ {t : List Nd} {v : Int} {k : Nat} {x : Nd} (h : t[k]? = some x) : cn t v (k + 1) = cn t v k + (if nPr x = v then 1 else 0) := by
  show cn t v k + (match t[k]? with | some x => if nPr x = v then 1 else 0 | none => 0) = _
  rw [h]
theorem cn_bd (t : List Nd) (v : Int) : ∀ k, 0 ≤ cn t v k ∧ cn t v k ≤ (k : Int)
  | 0 => ⟨Int.le_refl _, Int.le_refl _⟩
  | k + 1 => by
    have ih := cn_bd t v k
    cases h : t[k]? with
    | none =>
      have e : cn t v (k + 1) = cn t v k := by
        show cn t v k + (match t[k]? with | some x => if nPr x = v then 1 else 0 | none => 0) = _
        rw [h]; exact Int.add_zero _
      rw [e]; omega
    | some x =>
      rw [cn_succ h]
      split <;> omega
def allB (t : List Nd) (i : Nat) (x : Nd) : Bool := decide (nPr x ≠ 0) && (decide (0 < cn t 2 (i + 1)) && (decide (0 < cn t 3 (i + 1)) && (decide (0 < cn t 4 (i + 1)) && (decide (0 < cn t 5 (i + 1)) && decide (cn t (nPr x) (i + 1) = 1)))))
theorem kin_cn {t : List Nd} {v : Int} (hv : v ≠ 0) : ∀ k, v ∈ kin t k ↔ 0 < cn t v k
  | 0 => by
    show v ∈ [] ↔ (0 : Int) < 0
    simp
  | k + 1 => by
    have ih := kin_cn (t := t) hv k
    have hb := cn_bd t v k
    cases h : t[k]? with
    | none =>
      have e : cn t v (k + 1) = cn t v k := by
        show cn t v k + (match t[k]? with | some x => if nPr x = v then 1 else 0 | none => 0) = _
        rw [h]; exact Int.add_zero _
      have e2 : kin t (k + 1) = kin t k := by
        show (match t[k]? with | some x => if nPr x = 0 then kin t k else insP (nPr x) (kin t k) | none => kin t k) = _
        rw [h]
      rw [e, e2, ih]
    | some x =>
      rw [cn_succ h, kin_succ h]
      by_cases h0 : nPr x = 0
      · rw [if_pos h0, if_neg (by rw [h0]; exact fun e => hv e.symm), ih, Int.add_zero]
      · rw [if_neg h0, insP_mem]
        by_cases hx : nPr x = v
        · rw [if_pos hx]
          constructor
          · intro _; omega
          · intro _; exact .inl hx.symm
        · rw [if_neg hx, Int.add_zero, ← ih]
          constructor
          · rintro (e | e)
            · exact absurd e.symm hx
            · exact e
          · exact .inr
theorem kin_nodup (t : List Nd) : ∀ k, (kin t k).Nodup
  | 0 => List.nodup_nil
  | k + 1 => by
    have ih := kin_nodup t k
    cases h : t[k]? with
    | none =>
      have e2 : kin t (k + 1) = kin t k := by
        show (match t[k]? with | some x => if nPr x = 0 then kin t k else insP (nPr x) (kin t k) | none => kin t k) = _
        rw [h]
      rw [e2]; exact ih
    | some x =>
      rw [kin_succ h]
      split
      · exact ih
      · unfold insP
        split
        · exact ih
        · exact List.nodup_cons.2 ⟨by assumption, ih⟩
theorem kin_rng {f q : Int} {t : List Nd} {n : Nat} (hok : okK f q t n = true) : ∀ k, k ≤ n → ∀ v ∈ kin t k, v = 2 ∨ v = 3 ∨ v = 4 ∨ v = 5
  | 0, _ => fun v h => by cases h
  | k + 1, hk => by
    have ih := kin_rng hok k (by omega)
    cases h : t[k]? with
    | none =>
      have e2 : kin t (k + 1) = kin t k := by
        show (match t[k]? with | some x => if nPr x = 0 then kin t k else insP (nPr x) (kin t k) | none => kin t k) = _
        rw [h]
      rw [e2]; exact ih
    | some x =>
      rw [kin_succ h]
      split
      · exact ih
      · intro v hv
        rcases insP_mem.1 hv with rfl | hv
        · have h2 := (mvB_out (nodeB_out (okK_at hok (by omega) h)).1).2.2.2
          rename_i h0
          have h3 : x.2.2.2 ≠ 0 := h0
          show x.2.2.2 = 2 ∨ x.2.2.2 = 3 ∨ x.2.2.2 = 4 ∨ x.2.2.2 = 5
          omega
        · exact ih v hv
def ind (v : Int) (ps : List Int) : Nat := if v ∈ ps then 1 else 0
theorem len_ind : ∀ {ps : List Int}, ps.Nodup → (∀ v ∈ ps, v = 2 ∨ v = 3 ∨ v = 4 ∨ v = 5) → ps.length = ind 2 ps + ind 3 ps + ind 4 ps + ind 5 ps
  | [], _, _ => rfl
  | a :: ps, hn, hr => by
    obtain ⟨h1, h2⟩ := List.nodup_cons.1 hn
    have ih := len_ind h2 (fun v hv => hr v (List.mem_cons_of_mem _ hv))
    have ha := hr a List.mem_cons_self
    rw [List.length_cons, ih]
    unfold ind
    rcases ha with rfl | rfl | rfl | rfl <;> simp [h1] <;> omega
theorem ind_one {v : Int} {ps : List Int} : ind v ps = 1 ↔ v ∈ ps := by
  unfold ind
  split <;> simp [*]
theorem ind_le (v : Int) (ps : List Int) : ind v ps ≤ 1 := by
  unfold ind
  split <;> omega
theorem ind_no {v : Int} {ps : List Int} (h : v ∉ ps) : ind v ps = 0 := if_neg h
/-- three of four -/
theorem three_of {ps : List Int} (hn : ps.Nodup) (hr : ∀ v ∈ ps, v = 2 ∨ v = 3 ∨ v = 4 ∨ v = 5) {p : Int} (hp : p = 2 ∨ p = 3 ∨ p = 4 ∨ p = 5) (hpn : p ∉ ps) : ps.length = 3 ↔ ∀ v, (v = 2 ∨ v = 3 ∨ v = 4 ∨ v = 5) → v ≠ p → v ∈ ps := by
  have hl := len_ind hn hr
  have h0 := ind_no hpn
  have b2 := ind_le 2 ps
  have b3 := ind_le 3 ps
  have b4 := ind_le 4 ps
  have b5 := ind_le 5 ps
  constructor
  · intro h3 v hv hvp
    refine ind_one.1 ?_
    rcases hp with rfl | rfl | rfl | rfl <;> rcases hv with rfl | rfl | rfl | rfl <;> first | (exact absurd rfl hvp) | omega
  · intro h
    have g : ∀ v, (v = 2 ∨ v = 3 ∨ v = 4 ∨ v = 5) → v ≠ p → ind v ps = 1 := fun v hv hvp => ind_one.2 (h v hv hvp)
    rcases hp with rfl | rfl | rfl | rfl
    · have := g 3 (by decide) (by decide); have := g 4 (by decide) (by decide); have := g 5 (by decide) (by decide); omega
    · have := g 2 (by decide) (by decide); have := g 4 (by decide) (by decide); have := g 5 (by decide) (by decide); omega
    · have := g 2 (by decide) (by decide); have := g 3 (by decide) (by decide); have := g 5 (by decide) (by decide); omega
    · have := g 2 (by decide) (by decide); have := g 3 (by decide) (by decide); have := g 4 (by decide) (by decide); omega
theorem allB_s3 {f q : Int} {t : List Nd} {i : Nat} {x : Nd} (hok : okK f q t t.length = true) (hx : t[i]? = some x) : allB t i x = s3 x (kin t i) := by
  have hil : i < t.length := (List.getElem?_eq_some_iff.1 hx).1
  have hp := (mvB_out (nodeB_out (okK_at hok hil hx)).1).2.2.2
  by_cases h0 : nPr x = 0
  · unfold allB s3
    rw [decide_eq_false (show ¬ nPr x ≠ 0 from fun h => h h0)]
    rfl
  · have hp2 : nPr x = 2 ∨ nPr x = 3 ∨ nPr x = 4 ∨ nPr x = 5 := by
      have h3 : x.2.2.2 ≠ 0 := h0
      show x.2.2.2 = 2 ∨ x.2.2.2 = 3 ∨ x.2.2.2 = 4 ∨ x.2.2.2 = 5
      omega
    have hcp := cn_succ (v := nPr x) hx
    rw [if_pos rfl] at hcp
    have hcb := cn_bd t (nPr x) i
    have hmem := kin_cn (t := t) h0 i
    by_cases hpk : nPr x ∈ kin t i
    · have h1 := hmem.1 hpk
      unfold allB s3
      rw [decide_eq_true hpk, decide_eq_false (show ¬ cn t (nPr x) (i + 1) = 1 by omega)]
      simp
    · have h1 : cn t (nPr x) i = 0 := by
        have : ¬ 0 < cn t (nPr x) i := fun h => hpk (hmem.2 h)
        omega
      have h3 := three_of (kin_nodup t i) (kin_rng hok i (by omega)) hp2 hpk
      have hv : ∀ v : Int, v ≠ 0 → (0 < cn t v (i + 1) ↔ v = nPr x ∨ v ∈ kin t i) := fun v hv0 => by
        rw [kin_cn hv0, cn_succ hx]
        have := cn_bd t v i
        by_cases e : nPr x = v
        · rw [if_pos e]
          constructor
          · intro _; exact .inl e.symm
          · intro _; omega
        · rw [if_neg e]
          constructor
          · intro h; exact .inr (by omega)
          · rintro (h | h)
            · exact absurd h.symm e
            · omega
      unfold allB s3
      rw [decide_eq_false hpk, decide_eq_true (show cn t (nPr x) (i + 1) = 1 by omega), decide_eq_true h0]
      simp only [Bool.true_and, Bool.and_true, Bool.not_false]
      rw [Bool.eq_iff_iff]
      simp only [Bool.and_eq_true, decide_eq_true_iff]
      rw [hv 2 (by decide), hv 3 (by decide), hv 4 (by decide), hv 5 (by decide), h3]
      constructor
      · rintro ⟨g2, g3, g4, g5⟩ v hv4 hvp
        have : v = nPr x ∨ v ∈ kin t i := by rcases hv4 with rfl | rfl | rfl | rfl <;> assumption
        rcases this with h | h
        · exact absurd h hvp
        · exact h
      · intro h
        refine ⟨?_, ?_, ?_, ?_⟩
        · by_cases e : (2 : Int) = nPr x
          · exact .inl e
          · exact .inr (h 2 (by decide) e)
        · by_cases e : (3 : Int) = nPr x
          · exact .inl e
          · exact .inr (h 3 (by decide) e)
        · by_cases e : (4 : Int) = nPr x
          · exact .inl e
          · exact .inr (h 4 (by decide) e)
        · by_cases e : (5 : Int) = nPr x
          · exact .inl e
          · exact .inr (h 5 (by decide) e)
end Go.Proofs.Yteaclphankckiaa
