/- Layer 43: every allowed pairing is in the list of all; two entrants change places; plain. -/
import Derived.Test.YtjjjdoealagpcaaDoorHp
namespace Go.Proofs.YtjjjdoealagpcaaDoor
open Go Go.RowKit
set_option linter.unusedSimpArgs false
set_option linter.unusedVariables false
theorem oE_get {o : List Int} {t : Nat} (h : t < o.length) : o[t]? = some (oE o t) := by
  obtain ⟨x, hx⟩ : ∃ x, o[t]? = some x := ⟨_, List.getElem?_eq_getElem h⟩
  rw [hx, oE_eq hx]
theorem allR_at {l : List Ent} {o : List Int} {v : List Bool} (h : allR l o v) {t : Nat} (ht : t < l.length) :
    (oE o t = -1 ∧ cst l t l.length ≠ -1) ∨ ∃ u : Nat, oE o t = (u : Int) ∧ u < l.length ∧ u ≠ t ∧ oE o u = (t : Int) ∧ cst l (min t u) (max t u) ≠ -1 := by
  obtain ⟨h1, h2⟩ := h.2.2.1 t ht
  by_cases e : oE o t = -1
  · exact Or.inl ⟨e, (h1 e).2⟩
  · obtain ⟨a, b, c, d, f, _⟩ := h2 e
    obtain ⟨u, hu⟩ := Int.eq_ofNat_of_zero_le a
    rw [hu, Int.toNat_natCast] at d f
    exact Or.inr ⟨u, hu, by omega, by omega, d, f⟩
theorem byN_pos {o : List Int} {t k : Nat} (h : oE o t = -1) (ht : t < k) : 1 ≤ byN o k := by
  have h1 := byN_bye h
  have h2 := byN_mono o (show t + 1 ≤ k by omega)
  omega
theorem byN_two2 {o : List Int} {t u k : Nat} (h : oE o t = -1) (h2 : oE o u = -1) (htu : t < u) (hu : u < k) : 2 ≤ byN o k := by
  have h3 := byN_pos h htu
  have h4 := byN_bye h2
  have h5 := byN_mono o (show u + 1 ≤ k by omega)
  omega
structure Cls (l : List Ent) (o : List Int) (s : Nat) : Prop where
  bye : ∀ t, t < l.length → s.testBit t = true → oE o t = -1 → s.testBit l.length = true
  two : ∀ t u : Nat, t < l.length → s.testBit t = true → oE o t = (u : Int) → s.testBit u = true
theorem allR_gen {l : List Ent} {o : List Int} {v : List Bool} (h7 : l.length ≤ 7) (h : allR l o v) : ∀ k s, s ≤ k → s < 2 ^ szE l → cntE s % 2 = 0 → Cls l o s →
    ∃ ps ∈ genL l.length k s, ∀ p ∈ ps, (o[p.1]? = some (opp l.length p.2) ∧ (p.2 < l.length → o[p.2]? = some (p.1 : Int))) ∧ cst l p.1 p.2 ≠ -1 := by
  intro k
  induction k with
  | zero =>
    intro s hk hs hc hC
    obtain rfl : s = 0 := by omega
    exact ⟨[], List.mem_singleton.2 rfl, fun p hp => absurd hp List.not_mem_nil⟩
  | succ k ih =>
    intro s hk hs hc hC
    by_cases h0 : s = 0
    · subst h0
      rw [genL_zero]
      exact ⟨[], List.mem_singleton.2 rfl, fun p hp => absurd hp List.not_mem_nil⟩
    have hs2 : s < 256 := Nat.lt_of_lt_of_le hs (full_lt (szE_le h7).1)
    obtain ⟨l1, l2, l3⟩ := low_in hs2 h0
    have hil : lowE s < l.length := low_len (by omega) hs hs2 h0 hc
    have hol := h.1
    -- with a partner of the lowest element
    have key : ∀ j, lowE s < j → j ≤ l.length → s.testBit j = true → Cls l o (restN s (lowE s) j) → o[lowE s]? = some (opp l.length j) → (j < l.length → o[j]? = some (lowE s : Int)) → cst l (lowE s) j ≠ -1 →
        ∃ ps ∈ genL l.length (k + 1) s, ∀ p ∈ ps, (o[p.1]? = some (opp l.length p.2) ∧ (p.2 < l.length → o[p.2]? = some (p.1 : Int))) ∧ cst l p.1 p.2 ≠ -1 := by
      intro j hj hjl hb hC2 e1 e2 e3
      obtain ⟨_, r1, r2, r3⟩ := rest_eq hs2 l2 (testBit_lt8 hs2 hb) (by omega) l1 hb
      obtain ⟨ps, hps, hall⟩ := ih (restN s (lowE s) j) (by omega) (by omega) (by omega) hC2
      refine ⟨(lowE s, j) :: ps, ?_, fun p hp => ?_⟩
      · rw [genL_succ h0]
        exact List.mem_flatMap.2 ⟨j, List.mem_filter.2 ⟨ordL_mem (n := szE l) rfl hj (bit_lt hs hb), hb⟩, List.mem_map.2 ⟨ps, hps, rfl⟩⟩
      · rcases List.mem_cons.1 hp with rfl | hp
        · exact ⟨⟨e1, e2⟩, e3⟩
        · exact hall p hp
    have hby := h.2.2.2
    rcases allR_at h hil with ⟨a1, a2⟩ | ⟨u, a1, a2, a3, a4, a5⟩
    · have hbl := hC.bye _ hil l1 a1
      have hrb := rest_bit hs2 (show lowE s ≠ l.length by omega) l1 hbl
      refine key l.length hil (Nat.le_refl _) hbl ⟨fun t ht hbt he => ?_, fun t u ht hbt he => ?_⟩ ?_ (fun hh => absurd hh (Nat.lt_irrefl _)) a2
      · exfalso
        rw [hrb] at hbt
        simp only [Bool.and_eq_true, bne_iff_ne] at hbt
        have hne := hbt.1.2
        have : 2 ≤ byN o l.length := by
          rcases Nat.lt_or_gt_of_ne hne with hlt | hlt
          · exact byN_two2 he a1 hlt hil
          · exact byN_two2 a1 he hlt ht
        omega
      · rw [hrb] at hbt ⊢
        simp only [Bool.and_eq_true, bne_iff_ne] at hbt ⊢
        refine ⟨⟨hC.two t u ht hbt.1.1 he, fun e => ?_⟩, ?_⟩
        · subst e
          rcases allR_at h ht with ⟨b1, _⟩ | ⟨u', b1, b2, b3, b4, _⟩
          · omega
          · have : u' = lowE s := by omega
            subst this
            omega
        · rcases allR_at h ht with ⟨b1, _⟩ | ⟨u', b1, b2, b3, b4, _⟩
          · omega
          · omega
      · rw [oE_get (by omega), a1]
        unfold opp
        rw [if_pos rfl]
    · have hbu := hC.two _ u hil l1 a1
      have hul : lowE s < u := by
        have := l3 u (by omega) hbu
        omega
      have hrb := rest_bit hs2 (show lowE s ≠ u by omega) l1 hbu
      rw [Nat.min_eq_left (by omega), Nat.max_eq_right (by omega)] at a5
      refine key u hul (by omega) hbu ⟨fun t ht hbt he => ?_, fun t z ht hbt he => ?_⟩ ?_ (fun _ => by rw [oE_get (by omega), a4]) a5
      · rw [hrb] at hbt ⊢
        simp only [Bool.and_eq_true, bne_iff_ne] at hbt ⊢
        exact ⟨⟨hC.bye t ht hbt.1.1 he, by omega⟩, by omega⟩
      · rw [hrb] at hbt ⊢
        simp only [Bool.and_eq_true, bne_iff_ne] at hbt ⊢
        refine ⟨⟨hC.two t z ht hbt.1.1 he, fun e => ?_⟩, fun e => ?_⟩
        · rcases allR_at h ht with ⟨b1, _⟩ | ⟨u', b1, b2, b3, b4, _⟩
          · omega
          · have h10 := hbt.2
            rw [show u' = lowE s by omega] at b4
            omega
        · rcases allR_at h ht with ⟨b1, _⟩ | ⟨u', b1, b2, b3, b4, _⟩
          · omega
          · have h9 := hbt.1.2
            rw [show u' = u by omega] at b4
            omega
      · rw [oE_get (by omega), a1]
        unfold opp
        rw [if_neg (by omega)]
theorem allR_ways {l : List Ent} {o : List Int} {v : List Bool} (h7 : l.length ≤ 7) (h : allR l o v) : ∃ ps ∈ waysP l, OppP l ps o ∧ ∀ p ∈ ps, cst l p.1 p.2 ≠ -1 := by
  have hby := h.2.2.2
  obtain ⟨ps, hps, hall⟩ := allR_gen h7 h (fullS l) (fullS l) (Nat.le_refl _) (fullS_lt h7).1 (full_even (szE_le h7).1 (szE_le h7).2) ⟨fun t ht hb he => by
    have := byN_pos he ht
    unfold fullS
    rw [full_bit, decide_eq_true_eq]
    unfold szE
    omega, fun t u ht hb he => by
    rcases allR_at h ht with ⟨b1, _⟩ | ⟨u', b1, b2, _⟩
    · omega
    · exact full_in (by omega)⟩
  exact ⟨ps, hps, ⟨h.1, ways_mat h7 hps, (fullS_lt h7).2, fun p hp => (hall p hp).1⟩, fun p hp => (hall p hp).2⟩
theorem OppP.start {l : List Ent} {ps : List (Nat × Nat)} {o : List Int} (h7 : l.length ≤ 7) (hp : ps ∈ waysP l) (h : OppP l ps o) : o = foldO l.length (start2 l.length) ps := h.eq (OppP.of h7 hp (start2_len _))
theorem allR_val {l : List Ent} {o : List Int} {v : List Bool} (h7 : l.length ≤ 7) (hok : ∀ x ∈ l, numOk x) (h : allR l o v) : ∃ ps ∈ waysP l, OppP l ps o ∧ (∀ p ∈ ps, cst l p.1 p.2 ≠ -1) ∧ valR l o v = costL (cst l) ps := by
  obtain ⟨ps, hps, hO, hc⟩ := allR_ways h7 h
  refine ⟨ps, hps, hO, hc, ?_⟩
  rw [valR_yes h, ← hO.val hok (hO.start h7 hps), valR_yes (hO.all hc (hO.start h7 hps))]
theorem allR_of {l : List Ent} {o : List Int} {v : List Bool} (h : valR l o v ≠ -1) : allR l o v := Classical.byContradiction fun hh => h (valR_no hh)
/-- no allowed pairing costs less than the table says -/
theorem allR_ge {l : List Ent} {o : List Int} {v : List Bool} (h7 : l.length ≤ 7) (hok : ∀ x ∈ l, numOk x) (h : valR l o v ≠ -1) : bst l (fullS l) ≠ -1 ∧ bst l (fullS l) ≤ valR l o v := by
  obtain ⟨ps, hps, _, _, hv⟩ := allR_val h7 hok (allR_of h)
  rcases fm_all (C := cst l) rfl (szE_le h7).1 (cst_or hok) (fullS l) (fullS l) (Nat.le_refl _) (fullS_lt h7).1 (full_even (szE_le h7).1 (szE_le h7).2) with ⟨h1, h2⟩ | ⟨h1, h2, h3⟩
  · exact absurd (hv.trans (h2 ps hps)) h
  · have h2' : FM (costL (cst l)) (waysP l) (pairsL l) := h2
    have h3' : costL (cst l) (pairsL l) = bst l (fullS l) := h3
    have h1' : 0 ≤ bst l (fullS l) := h1
    rcases h2'.le hps with h4 | h4
    · exact absurd (hv.trans h4) h
    · exact ⟨by omega, by omega⟩
/-! two change places -/
def sw (x y t : Nat) : Nat := if t = x then y else if t = y then x else t
theorem sw_sw (x y t : Nat) : sw x y (sw x y t) = t := by
  unfold sw
  by_cases h1 : t = x
  · rw [if_pos h1]
    by_cases h2 : y = x
    · rw [if_pos h2]; omega
    · rw [if_neg h2, if_pos rfl]; omega
  · rw [if_neg h1]
    by_cases h2 : t = y
    · rw [if_pos h2, if_pos rfl]; omega
    · rw [if_neg h2, if_neg h1, if_neg h2]
theorem sw_lt {x y t n : Nat} (hx : x < n) (hy : y < n) (ht : t < n) : sw x y t < n := by
  unfold sw
  split
  · exact hy
  · split <;> omega
def sumF (f : Nat → Int) : Nat → Int
  | 0 => 0
  | k + 1 => sumF f k + f k
theorem sumF_congr {f g : Nat → Int} : ∀ n, (∀ i, i < n → f i = g i) → sumF f n = sumF g n
  | 0, _ => rfl
  | n + 1, h => by
    show sumF f n + f n = sumF g n + g n
    rw [sumF_congr n (fun i hi => h i (by omega)), h n (by omega)]
theorem sumH_F (h : Nat → Int → Int) (o : List Int) : ∀ k, sumH h o k = sumF (fun i => h i (oE o i)) k
  | 0 => rfl
  | k + 1 => by show sumH h o k + h k (oE o k) = sumF _ k + _; rw [sumH_F h o k]
def upd (f : Nat → Int) (i : Nat) (v : Int) : Nat → Int := fun t => if t = i then v else f t
theorem sumF_upd (f : Nat → Int) (i : Nat) (v : Int) : ∀ n, sumF (upd f i v) n = if i < n then sumF f n - f i + v else sumF f n
  | 0 => rfl
  | n + 1 => by
    show sumF (upd f i v) n + upd f i v n = if i < n + 1 then sumF f n + f n - f i + v else sumF f n + f n
    rw [sumF_upd f i v n]
    unfold upd
    by_cases h : n = i
    · subst h
      rw [if_neg (Nat.lt_irrefl _), if_pos rfl, if_pos (by omega)]
      omega
    · rw [if_neg h]
      by_cases h2 : i < n
      · rw [if_pos h2, if_pos (by omega)]; omega
      · rw [if_neg h2, if_neg (by omega)]
theorem sumF_sw (f : Nat → Int) {x y n : Nat} (hx : x < n) (hy : y < n) : sumF (fun i => f (sw x y i)) n = sumF f n := by
  have e : ∀ i, i < n → f (sw x y i) = upd (upd f x (f y)) y (f x) i := fun i _ => by
    unfold upd sw
    by_cases h1 : i = x
    · subst h1
      rw [if_pos rfl]
      by_cases h2 : i = y
      · subst h2; rw [if_pos rfl]
      · rw [if_neg h2, if_pos rfl]
    · rw [if_neg h1, if_neg h1]
      by_cases h2 : i = y
      · rw [if_pos h2, if_pos h2]
      · rw [if_neg h2, if_neg h2]
  rw [sumF_congr n e, sumF_upd, if_pos hy, sumF_upd, if_pos hx]
  have : upd f x (f y) y = f y := by
    unfold upd
    split <;> rfl
  rw [this]
  omega
/-- what two cost, in any order -/
def cstD (l : List Ent) (i j : Nat) : Int := cst l (min i j) (max i j)
def hSy (l : List Ent) (i : Nat) (x : Int) : Int := if x = -1 then 2 * cst l i l.length else if x = -2 then 0 else cstD l i x.toNat
theorem sumP_sy {l : List Ent} (hok : ∀ x ∈ l, numOk x) : ∀ ps : List (Nat × Nat), (∀ p ∈ ps, p.1 < p.2 ∧ cst l p.1 p.2 ≠ -1) → sumP (hSy l) l.length ps = 2 * costL (cst l) ps ∧ 0 ≤ costL (cst l) ps
  | [], _ => ⟨rfl, Int.le_refl _⟩
  | p :: ps, h => by
    obtain ⟨h1, h2⟩ := sumP_sy hok ps (fun q hq => h q (List.mem_cons_of_mem _ hq))
    obtain ⟨h3, h4⟩ := h p List.mem_cons_self
    have h5 := cst_bd hok p.1 p.2
    rw [costL_add h4 (by omega)]
    refine ⟨?_, by omega⟩
    show addH (hSy l) l.length p + sumP (hSy l) l.length ps = _
    rw [h1]
    have : addH (hSy l) l.length p = 2 * cst l p.1 p.2 := by
      unfold addH
      split
      · rename_i e
        rw [e]
        exact if_pos rfl
      · have a1 : hSy l p.1 (p.2 : Int) = cst l p.1 p.2 := by
          unfold hSy cstD
          rw [if_neg (by omega), if_neg (by omega), Int.toNat_natCast, Nat.min_eq_left (by omega), Nat.max_eq_right (by omega)]
        have a2 : hSy l p.2 (p.1 : Int) = cst l p.1 p.2 := by
          unfold hSy cstD
          rw [if_neg (by omega), if_neg (by omega), Int.toNat_natCast, Nat.min_eq_right (by omega), Nat.max_eq_left (by omega)]
        rw [a1, a2]
        omega
    rw [this]
    omega
theorem allR_sy {l : List Ent} {o : List Int} {v : List Bool} (h7 : l.length ≤ 7) (hok : ∀ x ∈ l, numOk x) (h : allR l o v) : sumH (hSy l) o l.length = 2 * valR l o v := by
  obtain ⟨ps, hps, hO, hc, hv⟩ := allR_val h7 hok h
  have h2 : ∀ t, hSy l t (-2) = 0 := fun t => by unfold hSy; rw [if_neg (by decide), if_pos rfl]
  have hs := hO.start h7 hps
  conv => lhs; rw [hs]
  rw [hO.mat.sum h2 hO.lt (start2 l.length) (start2_len _) (fun t ht _ => rep_get _ ht), sumH_start h2 _ (Nat.le_refl _), Int.zero_add, hv]
  exact (sumP_sy hok ps (fun p hp => ⟨(hO.mat.bits hO.lt p hp).1, hc p hp⟩)).1
/-- two fields that cost the same but for two that change places -/
structure Sim (x y : Nat) (l1 l2 : List Ent) : Prop where
  len : l1.length = l2.length
  hx : x < l2.length
  hy : y < l2.length
  two : ∀ i j, i < l2.length → j < l2.length → i ≠ j → cstD l1 i j = cstD l2 (sw x y i) (sw x y j)
  bye : ∀ i, i < l2.length → cst l1 i l1.length = cst l2 (sw x y i) l2.length
def swO (x y : Nat) (o : List Int) : List Int := (List.range o.length).map fun i => if oE o (sw x y i) = -1 then -1 else (sw x y (oE o (sw x y i)).toNat : Int)
theorem swO_at {x y : Nat} {o : List Int} {i : Nat} (h : i < o.length) : oE (swO x y o) i = if oE o (sw x y i) = -1 then -1 else (sw x y (oE o (sw x y i)).toNat : Int) := by
  refine oE_eq ?_
  unfold swO
  rw [List.getElem?_map, List.getElem?_range h]; rfl
theorem sw_inj {x y a b : Nat} (h : sw x y a = sw x y b) : a = b := by rw [← sw_sw x y a, h, sw_sw]
theorem sim_le {x y : Nat} {l1 l2 : List Ent} (h : Sim x y l1 l2) (h7 : l2.length ≤ 7) (ok1 : ∀ e ∈ l1, numOk e) (ok2 : ∀ e ∈ l2, numOk e) (hn : bst l2 (fullS l2) ≠ -1) : bst l1 (fullS l1) ≠ -1 ∧ bst l1 (fullS l1) ≤ bst l2 (fullS l2) := by
  rcases best_is h7 ok2 with ⟨h1, _⟩ | ⟨h1, _, h3, _, _⟩
  · exact absurd h1 hn
  obtain ⟨o, ho⟩ : ∃ o, resO l2 = o := ⟨_, rfl⟩
  rw [ho] at h3
  have h3' : valR l2 o (rWL l2 o) = bst l2 (fullS l2) := h3
  have hA := allR_of (l := l2) (o := o) (v := rWL l2 o) (by rw [h3']; exact hn)
  have hol := hA.1
  have hlen := h.len
  have hx := h.hx
  have hy := h.hy
  have hoL : (swO x y o).length = l1.length := by unfold swO; rw [List.length_map, List.length_range]; omega
  -- the pairing with both places changed
  have hB : allR l1 (swO x y o) (rWL l1 (swO x y o)) := by
    refine ⟨hoL, rWL_len _ _, fun i hi => ?_, ?_⟩
    · have hil2 : i < l2.length := by omega
      have hsi := sw_lt hx hy hil2
      have hv : vE (rWL l1 (swO x y o)) i = rowW l1 (swO x y o) i := vE_eq (rWL_get hi)
      rcases allR_at hA hsi with ⟨a1, a2⟩ | ⟨u, a1, a2, a3, a4, a5⟩
      · have e : oE (swO x y o) i = -1 := by rw [swO_at (by omega), if_pos a1]
        rw [okR_bye e]
        exact ⟨by rw [hv]; unfold rowW; rw [e]; rfl, by rw [h.bye i hil2]; exact a2⟩
      · have e : oE (swO x y o) i = (sw x y u : Int) := by rw [swO_at (by omega), if_neg (by omega), a1, Int.toNat_natCast]
        have hwl := sw_lt hx hy a2
        have e2 : oE (swO x y o) (sw x y u) = (i : Int) := by rw [swO_at (by omega), sw_sw, if_neg (by omega), a4, Int.toNat_natCast, sw_sw]
        have hne : sw x y u ≠ i := fun hh => a3 (by rw [← hh, sw_sw])
        have hcc : cst l1 (min i (sw x y u)) (max i (sw x y u)) ≠ -1 := by
          have h9 := h.two i (sw x y u) hil2 hwl (fun hh => hne hh.symm)
          unfold cstD at h9
          rw [sw_sw] at h9
          rw [h9]; exact a5
        rw [okR_two (by omega), twoR_iff e e2 hv rfl rfl]
        refine ⟨by omega, hne, rfl, hcc, ?_⟩
        unfold rowW
        rw [e, if_neg (by omega), Int.toNat_natCast, whL_ok (by omega) (by omega) hcc]
    · have h1 := byN_H (swO x y o) l1.length
      have h2 := byN_H o l2.length
      rw [sumH_F] at h1 h2
      have h4 : sumF (fun i => bnH i (oE (swO x y o) i)) l1.length = sumF (fun i => bnH i (oE o i)) l2.length := by
        rw [hlen, ← sumF_sw (fun i => bnH i (oE o i)) hx hy]
        refine sumF_congr _ fun i hi => ?_
        show bnH i _ = bnH (sw x y i) (oE o (sw x y i))
        rw [swO_at (by omega)]
        unfold bnH
        by_cases e : oE o (sw x y i) = -1
        · rw [if_pos e, if_pos rfl, if_pos e]
        · rw [if_neg e, if_neg (by omega), if_neg e]
      have h5 := hA.2.2.2
      omega
  have hv1 : valR l1 (swO x y o) (rWL l1 (swO x y o)) = bst l2 (fullS l2) := by
    have s1 := allR_sy (by omega) ok1 hB
    have s2 := allR_sy h7 ok2 hA
    rw [sumH_F] at s1 s2
    have h4 : sumF (fun i => hSy l1 i (oE (swO x y o) i)) l1.length = sumF (fun i => hSy l2 i (oE o i)) l2.length := by
      rw [hlen, ← sumF_sw (fun i => hSy l2 i (oE o i)) hx hy]
      refine sumF_congr _ fun i hi => ?_
      show hSy l1 i _ = hSy l2 (sw x y i) (oE o (sw x y i))
      have hsi := sw_lt hx hy hi
      rw [swO_at (by omega)]
      unfold hSy
      rcases allR_at hA hsi with ⟨a1, a2⟩ | ⟨u, a1, a2, a3, a4, a5⟩
      · rw [if_pos a1, if_pos rfl, if_pos a1, h.bye i hi]
      · rw [a1, if_neg (by omega), if_neg (by omega), if_neg (by omega), if_neg (by omega), if_neg (by omega), Int.toNat_natCast, Int.toNat_natCast, h.two i (sw x y u) hi (sw_lt hx hy a2) (fun hh => a3 (by rw [hh, sw_sw])), sw_sw]
    omega
  have := allR_ge (l := l1) (o := swO x y o) (v := rWL l1 (swO x y o)) (by omega) ok1 (by rw [hv1]; exact hn)
  rw [hv1] at this
  exact this
/-! a field in which two have changed places -/
theorem memI_mem {L : List Int} {n : Int} : memI L n = true ↔ n ∈ L := by
  unfold memI
  rw [List.any_eq_true]
  constructor
  · rintro ⟨x, hx, h⟩
    rw [beq_iff_eq] at h
    rw [← h]; exact hx
  · exact fun h => ⟨n, h, beq_self_eq_true _⟩
/-- whom one has met, by the new numbers, below a number -/
def nwN (l : List Ent) (x y i m : Nat) : List Nat := (List.range m).filter fun k => memI (en l (sw x y i)).met (sw x y k : Int)
def nwM (l : List Ent) (x y i m : Nat) : List Int := (nwN l x y i m).map fun (k : Nat) => (k : Int)
theorem nwN_succ (l : List Ent) (x y i m : Nat) : nwN l x y i (m + 1) = nwN l x y i m ++ if memI (en l (sw x y i)).met (sw x y m : Int) = true then [m] else [] := by
  unfold nwN
  rw [List.range_succ, List.filter_append]
  by_cases h : memI (en l (sw x y i)).met (sw x y m : Int) = true
  · rw [if_pos h, List.filter_cons_of_pos (by exact h)]; rfl
  · rw [if_neg h, List.filter_cons_of_neg (by exact h)]; rfl
theorem nwM_no {l : List Ent} {x y i m : Nat} (h : memI (en l (sw x y i)).met (sw x y m : Int) = false) : nwM l x y i m = nwM l x y i (m + 1) := by
  unfold nwM
  rw [nwN_succ, if_neg (by rw [h]; decide), List.append_nil]
theorem nwM_yes {l : List Ent} {x y i m : Nat} (h : memI (en l (sw x y i)).met (sw x y m : Int) = true) : nwM l x y i m ++ [(m : Int)] = nwM l x y i (m + 1) := by
  unfold nwM
  rw [nwN_succ, if_pos h, List.map_append]
  rfl
theorem nwM_le (l : List Ent) (x y i m : Nat) : (nwM l x y i m).length ≤ m := by
  unfold nwM nwN
  rw [List.length_map]
  have := List.length_filter_le (fun k => memI (en l (sw x y i)).met (sw x y k : Int)) (List.range m)
  rwa [List.length_range] at this
theorem mem_nwN {l : List Ent} {x y i m k : Nat} : k ∈ nwN l x y i m ↔ k < m ∧ memI (en l (sw x y i)).met (sw x y k : Int) = true := by
  unfold nwN
  rw [List.mem_filter, List.mem_range]
theorem mem_nwM {l : List Ent} {x y i m : Nat} {n : Int} (h : n ∈ nwM l x y i m) : ∃ k : Nat, n = (k : Int) ∧ k < m ∧ memI (en l (sw x y i)).met (sw x y k : Int) = true := by
  unfold nwM at h
  obtain ⟨k, hk, rfl⟩ := List.mem_map.1 h
  obtain ⟨h1, h2⟩ := mem_nwN.1 hk
  exact ⟨k, rfl, h1, h2⟩
theorem memI_nwM {l : List Ent} {x y i m k : Nat} (hk : k < m) : memI (nwM l x y i m) (k : Int) = memI (en l (sw x y i)).met (sw x y k : Int) := by
  cases h : memI (en l (sw x y i)).met (sw x y k : Int) with
  | true => exact memI_mem.2 (List.mem_map.2 ⟨k, mem_nwN.2 ⟨hk, h⟩, rfl⟩)
  | false =>
    cases h2 : memI (nwM l x y i m) (k : Int) with
    | false => rfl
    | true =>
      obtain ⟨q, e, _, h3⟩ := mem_nwM (memI_mem.1 h2)
      obtain rfl : k = q := by omega
      rw [h3] at h; cases h
theorem nwM_lt {l : List Ent} {x y i m a b : Nat} {p q : Int} (hab : a < b) (ha : (nwM l x y i m)[a]? = some p) (hb : (nwM l x y i m)[b]? = some q) : p < q := by
  unfold nwM at ha hb
  rw [List.getElem?_map] at ha hb
  obtain ⟨p', hp, rfl⟩ := Option.map_eq_some_iff.1 ha
  obtain ⟨q', hq, rfl⟩ := Option.map_eq_some_iff.1 hb
  obtain ⟨h1, h2⟩ := List.getElem?_eq_some_iff.1 hp
  obtain ⟨h3, h4⟩ := List.getElem?_eq_some_iff.1 hq
  have hs : (nwN l x y i m).Pairwise (fun a b => a < b) := List.Pairwise.filter _ List.pairwise_lt_range
  have := List.pairwise_iff_getElem.1 hs a b h1 h3 hab
  rw [h2, h4] at this
  omega
structure SameE (e f : Ent) : Prop where
  name : e.name = f.name
  rating : e.rating = f.rating
  score : e.score = f.score
  whites : e.whites = f.whites
  blacks : e.blacks = f.blacks
  last : e.last = f.last
  bye : e.bye = f.bye
structure SwF (x y : Nat) (l l' : List Ent) : Prop where
  len : l'.length = l.length
  hx : x < l.length
  hy : y < l.length
  same : ∀ i, i < l.length → SameE (en l' i) (en l (sw x y i))
  met : ∀ i, i < l.length → (en l' i).met = nwM l x y i l.length
theorem en_get {l : List Ent} {i : Nat} (h : i < l.length) : l[i]? = some (en l i) := by
  obtain ⟨x, hx⟩ : ∃ x, l[i]? = some x := ⟨_, List.getElem?_eq_getElem h⟩
  rw [hx, en_eq hx]
theorem okF.row {l : List Ent} (h : okF l) {i : Nat} (hi : i < l.length) : rowOk l i (en l i) := h.2.2 i _ hi (en_get hi)
theorem metOf_nat (l : List Ent) (k : Nat) : metOf l (k : Int) = (en l k).met := rfl
/-- those who met, met one another -/
theorem okF.met {l : List Ent} (h : okF l) {a : Nat} (ha : a < l.length) {n : Int} (hm : memI (en l a).met n = true) : 0 ≤ n ∧ n < l.length ∧ n ≠ a ∧ memI (en l n.toNat).met (a : Int) = true := by
  obtain ⟨k, hk⟩ := List.getElem?_of_mem (memI_mem.1 hm)
  obtain ⟨⟨h1, h2, h3, _⟩, h4⟩ := (h.row ha).2.2 k n (List.getElem?_eq_some_iff.1 hk).1 hk
  exact ⟨h1, h2, h3, h4⟩
theorem okF.mutual {l : List Ent} (h : okF l) {a b : Nat} (ha : a < l.length) (hb : b < l.length) : memI (en l a).met (b : Int) = memI (en l b).met (a : Int) := by
  cases h1 : memI (en l a).met (b : Int) with
  | true => exact (h.met ha h1).2.2.2.symm
  | false =>
    cases h2 : memI (en l b).met (a : Int) with
    | false => rfl
    | true =>
      have := (h.met hb h2).2.2.2
      rw [Int.toNat_natCast, h1] at this
      cases this
theorem colC_min (e f : Ent) : colC e f = min (aheadC e f) (aheadC f e) := by
  unfold colC
  by_cases h : winsW e f
  · rw [if_pos h]
    have h2 : aheadC e f < aheadC f e ∨ aheadC e f = aheadC f e ∧ f.rating ≤ e.rating := h
    omega
  · rw [if_neg h]
    have h2 : ¬ (aheadC e f < aheadC f e) := fun hh => h (Or.inl hh)
    omega
theorem colC_comm (e f : Ent) : colC e f = colC f e := by rw [colC_min, colC_min]; omega
theorem colV_congr {e f : Ent} (h : SameE e f) (w : Bool) : colV e w = colV f w := by
  unfold colV
  rw [h.whites, h.blacks, h.last]
theorem colC_congr {e f e' f' : Ent} (h : SameE e e') (h2 : SameE f f') : colC e f = colC e' f' := by
  rw [colC_min, colC_min]
  unfold aheadC
  rw [colV_congr h, colV_congr h, colV_congr h2, colV_congr h2]
theorem sq_comm (a b : Int) : 100 * (a - b) * (a - b) = 100 * (b - a) * (b - a) := by
  rw [show b - a = -(a - b) by omega, Int.mul_neg, Int.mul_neg, Int.neg_mul, Int.neg_neg]
theorem cstD_eq {l : List Ent} (h : okF l) {i j : Nat} (hi : i < l.length) (hj : j < l.length) : cstD l i j = pairC (en l i) (en l j) j := by
  unfold cstD
  by_cases hij : i ≤ j
  · rw [Nat.min_eq_left hij, Nat.max_eq_right hij]
    exact cst_two (en_get hi) (en_get hj)
  · rw [Nat.min_eq_right (by omega), Nat.max_eq_left (by omega), cst_two (en_get hj) (en_get hi)]
    unfold pairC
    rw [h.mutual hj hi, colC_comm, sq_comm]
theorem lowF_mono {l1 l2 : List Ent} {s : Int} (h : ∀ e ∈ l1, ∃ f ∈ l2, f.score = e.score) : lowF l2 s ≤ lowF l1 s := by
  rcases lowF_in l1 s with h1 | ⟨e, he, h1⟩
  · rw [h1]; exact (lowF_le l2 s).1
  · obtain ⟨f, hf, h2⟩ := h e he
    rw [h1, ← h2]
    exact (lowF_le l2 s).2 f hf
section
variable {x y : Nat} {l l' : List Ent}
theorem SwF.mem (h : SwF x y l l') : ∀ e ∈ l', ∃ f ∈ l, f.score = e.score := fun e he => by
  obtain ⟨i, hi⟩ := List.getElem?_of_mem he
  have hil := (List.getElem?_eq_some_iff.1 hi).1
  have hl := h.len
  have h1 := h.same i (by omega)
  rw [en_eq hi] at h1
  exact ⟨_, List.mem_of_getElem? (en_get (sw_lt h.hx h.hy (show i < l.length by omega))), h1.score.symm⟩
theorem SwF.mem' (h : SwF x y l l') : ∀ e ∈ l, ∃ f ∈ l', f.score = e.score := fun e he => by
  obtain ⟨i, hi⟩ := List.getElem?_of_mem he
  have hil := (List.getElem?_eq_some_iff.1 hi).1
  have hsi := sw_lt h.hx h.hy hil
  have h1 := h.same _ hsi
  rw [sw_sw, en_eq hi] at h1
  exact ⟨_, List.mem_of_getElem? (en_get (by have := h.len; omega)), h1.score⟩
theorem nmEq_comm (e f : Ent) : nmEq e f = nmEq f e := by
  unfold nmEq
  exact Bool.beq_comm
theorem okF.names {l : List Ent} (h : okF l) {a b : Nat} (ha : a < l.length) (hb : b < l.length) (hab : a ≠ b) : nmEq (en l a) (en l b) = false := by
  by_cases hlt : a < b
  · exact (h.row hb).2.1 a _ hlt (en_get ha)
  · rw [nmEq_comm]
    exact (h.row ha).2.1 b _ (by omega) (en_get hb)
theorem SwF.ok (h : SwF x y l l') (hv : okF l) : okF l' := by
  have hl := h.len
  have hx := h.hx
  have hy := h.hy
  refine ⟨by have := hv.1; omega, by have := hv.2.1; omega, fun i e hi he => ?_⟩
  have hil : i < l.length := by omega
  have hsi := sw_lt hx hy hil
  have e1 := en_eq he
  have hs := h.same i hil
  have hm := h.met i hil
  rw [e1] at hs hm
  obtain ⟨r1, _, r3⟩ := hv.row hsi
  refine ⟨?_, fun j f hj hf => ?_, fun k n hk hn => ?_⟩
  · unfold entOk
    rw [hs.name, hs.rating, hs.score, hs.whites, hs.blacks, hs.last]
    exact r1
  · have hjl : j < l.length := by omega
    have hsj := h.same j hjl
    rw [en_eq hf] at hsj
    have h9 := hv.names (sw_lt hx hy hjl) hsi (fun hh => by have := sw_inj hh; omega)
    unfold nmEq at h9 ⊢
    rw [hs.name, hsj.name]
    exact h9
  · obtain ⟨q, rfl, hq, hmq⟩ := mem_nwM (l := l) (x := x) (y := y) (i := i) (m := l.length) (n := n) (by rw [← hm]; exact List.mem_of_getElem? hn)
    obtain ⟨m1, m2, m3, m4⟩ := hv.met hsi hmq
    rw [Int.toNat_natCast] at m4
    refine ⟨⟨by omega, by omega, fun hh => m3 ?_, fun m h0 hm2 => ?_⟩, ?_⟩
    · have : q = i := by omega
      rw [this]
    · rw [hm] at hn hm2
      exact nwM_lt (show k - 1 < k by omega) hm2 hn
    · rw [metOf_nat, h.met q hq, memI_nwM hil]
      exact m4
theorem SwF.sim (h : SwF x y l l') (hv : okF l) : Sim x y l' l := by
  have hl := h.len
  have hx := h.hx
  have hy := h.hy
  have hv' := h.ok hv
  refine ⟨hl, hx, hy, fun i j hi hj hij => ?_, fun i hi => ?_⟩
  · have hsi := sw_lt hx hy hi
    have hsj := sw_lt hx hy hj
    rw [cstD_eq hv' (by omega) (by omega), cstD_eq hv hsi hsj]
    unfold pairC
    rw [h.met i hi, memI_nwM hj, (h.same i hi).score, (h.same j hj).score, colC_congr (h.same i hi) (h.same j hj)]
  · have hsi := sw_lt hx hy hi
    rw [cst_bye (en_get (show i < l'.length by omega)), cst_bye (en_get hsi)]
    unfold byeC
    have e : ∀ s, lowF l' s = lowF l s := fun s => by
      have h1 := lowF_mono (s := s) h.mem
      have h2 := lowF_mono (s := s) h.mem'
      omega
    rw [e, (h.same i hi).score, (h.same i hi).bye]
theorem Sim.symm {l1 l2 : List Ent} (h : Sim x y l1 l2) : Sim x y l2 l1 := by
  have hl := h.len
  have hx := h.hx
  have hy := h.hy
  refine ⟨hl.symm, by omega, by omega, fun i j hi hj hij => ?_, fun i hi => ?_⟩
  · have h1 := h.two (sw x y i) (sw x y j) (sw_lt hx hy (by omega)) (sw_lt hx hy (by omega)) (fun hh => hij (sw_inj hh))
    rw [sw_sw, sw_sw] at h1
    exact h1.symm
  · have h1 := h.bye (sw x y i) (sw_lt hx hy (by omega))
    rw [sw_sw] at h1
    exact h1.symm
/-- two that change places change nothing of the cost -/
theorem SwF.best (h : SwF x y l l') (hv : okF l) (h7 : l.length ≤ 7) (hn : bst l (fullS l) ≠ -1) : bst l' (fullS l') ≠ -1 ∧ bst l' (fullS l') = bst l (fullS l) := by
  have hS := h.sim hv
  have hv' := h.ok hv
  have hl := h.len
  obtain ⟨a1, a2⟩ := sim_le hS h7 hv'.num hv.num hn
  obtain ⟨b1, b2⟩ := sim_le hS.symm (by omega) hv.num hv'.num a1
  exact ⟨a1, by omega⟩
end
end Go.Proofs.YtjjjdoealagpcaaDoor
