/- Layer 43: the best pairing of the list of all, plain. -/
import Derived.Test.YtjjjdoealagpcaaDoorHj
namespace Go.Proofs.YtjjjdoealagpcaaDoor
open Go Go.RowKit
set_option linter.unusedSimpArgs false
set_option linter.unusedVariables false
theorem rep_get {α : Type} {len t : Nat} (x : α) (h : t < len) : (List.replicate len x)[t]? = some x := by rw [List.getElem?_replicate, if_pos h]
def start2 (len : Nat) : List Int := List.replicate len (-2)
theorem start2_len (len : Nat) : (start2 len).length = len := List.length_replicate
def waysP (l : List Ent) : List (List (Nat × Nat)) := genL l.length (fullS l) (fullS l)
theorem full_bit (n t : Nat) : (2 ^ n - 1).testBit t = decide (t < n) := Nat.testBit_two_pow_sub_one n t
def evenAll : Bool := (List.range 9).all fun n => n % 2 == 1 || cntE (2 ^ n - 1) % 2 == 0
theorem evenAll_true : evenAll = true := by decide +kernel
theorem full_even {n : Nat} (h : n ≤ 8) (h2 : n % 2 = 0) : cntE (2 ^ n - 1) % 2 = 0 := by
  have h0 := evenAll_true
  unfold evenAll at h0
  have h1 := List.all_eq_true.1 h0 n (List.mem_range.2 (by omega))
  rw [h2] at h1
  simpa using h1
theorem szE_le {l : List Ent} (h : l.length ≤ 7) : szE l ≤ 8 ∧ szE l % 2 = 0 := by
  unfold szE
  omega
theorem fullS_lt {l : List Ent} (h : l.length ≤ 7) : fullS l < 2 ^ szE l ∧ fullS l < 256 := by
  have h1 := full_lt (szE_le h).1
  have h2 : 0 < 2 ^ szE l := Nat.two_pow_pos _
  unfold fullS
  omega
theorem ways_mat {l : List Ent} (h : l.length ≤ 7) {ps : List (Nat × Nat)} (hp : ps ∈ waysP l) : Mat l.length (fullS l) ps :=
  gen_mat rfl (szE_le h).1 _ _ ps (Nat.le_refl _) (fullS_lt h).1 (full_even (szE_le h).1 (szE_le h).2) hp
theorem full_in {l : List Ent} {t : Nat} (h : t < l.length) : (fullS l).testBit t = true := by
  unfold fullS
  rw [full_bit, decide_eq_true_eq]
  unfold szE
  omega
/-- all pairings, as they are listed -/
theorem all_ways {l : List Ent} (h : l.length ≤ 7) : allW l.length (start2 l.length) (decide (l.length % 2 = 1)) = (waysP l).map (foldO l.length (start2 l.length)) := by
  refine allW_gen rfl (szE_le h).1 _ _ _ _ _ (Nat.le_refl _) (fullS_lt h).1 (full_even (szE_le h).1 (szE_le h).2) (start2_len _) ?_ ⟨fun j hj => ?_, ?_⟩
  · have := List.count_le_length (a := (-2 : Int)) (l := start2 l.length)
    rw [start2_len] at this
    exact this
  · rw [full_in hj]
    exact ⟨fun _ => rep_get _ hj, fun _ => rfl⟩
  · unfold fullS
    rw [full_bit]
    unfold szE
    rcases Nat.mod_two_eq_zero_or_one l.length with e | e <;> simp [e]
/-! what a pairing costs -/
def adH (l : List Ent) (i : Nat) (x : Int) : Int := if x = -1 then cst l i l.length else if (i : Int) < x then cst l i x.toNat else 0
def bnH (_ : Nat) (x : Int) : Int := if x = -1 then 1 else 0
theorem sumR_H (l : List Ent) (o : List Int) : ∀ k, sumR l o k = sumH (adH l) o k
  | 0 => rfl
  | k + 1 => by show sumR l o k + adR l o k = sumH (adH l) o k + adH l k (oE o k); rw [sumR_H l o k]; rfl
theorem byN_H (o : List Int) : ∀ k, (byN o k : Int) = sumH bnH o k
  | 0 => rfl
  | k + 1 => by
    show ((byN o k + (if oE o k = -1 then 1 else 0) : Nat) : Int) = sumH bnH o k + (if oE o k = -1 then 1 else 0)
    rw [← byN_H o k]
    split <;> omega
theorem sumH_start {h : Nat → Int → Int} (h2 : ∀ t, h t (-2) = 0) {len : Nat} : ∀ k, k ≤ len → sumH h (start2 len) k = 0
  | 0, _ => rfl
  | k + 1, hk => by
    show sumH h (start2 len) k + h k (oE (start2 len) k) = 0
    rw [sumH_start h2 k (by omega), show oE (start2 len) k = -2 from oE_eq (rep_get _ (by omega)), h2]
    rfl
theorem sumP_cost {l : List Ent} (hok : ∀ x ∈ l, numOk x) : ∀ ps : List (Nat × Nat), (∀ p ∈ ps, p.1 < p.2 ∧ cst l p.1 p.2 ≠ -1) → sumP (adH l) l.length ps = costL (cst l) ps ∧ 0 ≤ costL (cst l) ps
  | [], _ => ⟨rfl, Int.le_refl _⟩
  | p :: ps, h => by
    obtain ⟨h1, h2⟩ := sumP_cost hok ps (fun q hq => h q (List.mem_cons_of_mem _ hq))
    obtain ⟨h3, h4⟩ := h p List.mem_cons_self
    have h5 := cst_bd hok p.1 p.2
    rw [costL_add h4 (by omega)]
    refine ⟨?_, by omega⟩
    show addH (adH l) l.length p + sumP (adH l) l.length ps = _
    rw [h1]
    have : addH (adH l) l.length p = cst l p.1 p.2 := by
      unfold addH
      split
      · rename_i e
        rw [e]
        exact if_pos rfl
      · have a1 : adH l p.1 (p.2 : Int) = cst l p.1 p.2 := by
          unfold adH
          rw [if_neg (by omega), if_pos (by omega), Int.toNat_natCast]
        have a2 : adH l p.2 (p.1 : Int) = 0 := by
          unfold adH
          rw [if_neg (by omega), if_neg (by omega)]
        rw [a1, a2, Int.add_zero]
    rw [this]
theorem costL_neg {C : Nat → Nat → Int} : ∀ {ps : List (Nat × Nat)} {p : Nat × Nat}, p ∈ ps → C p.1 p.2 = -1 → costL C ps = -1
  | [], p, h, _ => absurd h List.not_mem_nil
  | q :: ps, p, h, hc => by
    rcases List.mem_cons.1 h with rfl | h
    · exact if_pos (Or.inl hc)
    · exact if_pos (Or.inr (costL_neg h hc))
theorem Mat.byes {len s : Nat} {ps : List (Nat × Nat)} (hm : Mat len s ps) : s < 256 → sumP bnH len ps = if s.testBit len = true then 1 else 0 := by
  induction hm using Mat.ind with
  | nil => exact fun _ => by rw [Nat.zero_testBit]; rfl
  | @cons s i j ps hij hj bi bj hm ih =>
    intro hs
    show addH bnH len (i, j) + sumP bnH len ps = _
    rw [ih (restN_lt hs), rest_bit hs (by omega) bi bj]
    by_cases e : j = len
    · subst e
      rw [bj, bne_self_eq_false, Bool.and_false]
      have : addH bnH j (i, j) = 1 := by
        unfold addH
        rw [if_pos rfl]; rfl
      rw [this]; rfl
    · have : addH bnH len (i, j) = 0 := by
        unfold addH
        rw [if_neg e]
        unfold bnH
        rw [if_neg (by show (j : Int) ≠ -1; omega), if_neg (by show (i : Int) ≠ -1; omega)]; rfl
      rw [this, bne_iff_ne.2 (show len ≠ i by omega), bne_iff_ne.2 (fun h => e h.symm), Bool.and_true, Bool.and_true, Int.zero_add]
theorem whL_ok {l : List Ent} {a b : Nat} (ha : a < b) (hb : b < l.length) (hc : cst l a b ≠ -1) : whL l a b = whI l a b := by
  obtain ⟨x, hx⟩ : ∃ x, l[a]? = some x := ⟨_, List.getElem?_eq_getElem (by omega)⟩
  obtain ⟨y, hy⟩ : ∃ y, l[b]? = some y := ⟨_, List.getElem?_eq_getElem hb⟩
  rw [cst_two hx hy] at hc
  unfold pairC at hc
  unfold whL
  rw [en_eq hx]
  cases hm : memI x.met b with
  | true => rw [hm] at hc; exact absurd rfl hc
  | false => rfl
theorem rWL_get {l : List Ent} {o : List Int} {i : Nat} (hi : i < l.length) : (rWL l o)[i]? = some (rowW l o i) := by
  unfold rWL
  rw [List.getElem?_map, List.getElem?_range hi]; rfl
/-- the opponents of a pairing -/
structure OppP (l : List Ent) (ps : List (Nat × Nat)) (o : List Int) : Prop where
  len : o.length = l.length
  mat : Mat l.length (fullS l) ps
  lt : fullS l < 256
  op : ∀ p ∈ ps, o[p.1]? = some (opp l.length p.2) ∧ (p.2 < l.length → o[p.2]? = some (p.1 : Int))
theorem OppP.of {l : List Ent} (h7 : l.length ≤ 7) {ps : List (Nat × Nat)} (hp : ps ∈ waysP l) {now : List Int} (hl : now.length = l.length) : OppP l ps (foldO l.length now ps) :=
  ⟨by rw [foldO_len]; exact hl, ways_mat h7 hp, (fullS_lt h7).2, ((ways_mat h7 hp).fold (fullS_lt h7).2 now hl).2⟩
section
variable {l : List Ent} {ps : List (Nat × Nat)} {o : List Int}
theorem OppP.at_ (h : OppP l ps o) {t : Nat} (ht : t < l.length) : ∃ p ∈ ps, p.1 < p.2 ∧ p.2 ≤ l.length ∧ ((t = p.1 ∧ oE o t = opp l.length p.2) ∨ (t = p.2 ∧ p.2 < l.length ∧ oE o t = (p.1 : Int))) := by
  obtain ⟨p, hp, hh⟩ := h.mat.cover h.lt t (full_in ht)
  obtain ⟨b1, b2, _, _⟩ := h.mat.bits h.lt p hp
  refine ⟨p, hp, b1, b2, ?_⟩
  rcases hh with rfl | rfl
  · exact Or.inl ⟨rfl, oE_eq (h.op p hp).1⟩
  · exact Or.inr ⟨rfl, ht, oE_eq ((h.op p hp).2 ht)⟩
theorem OppP.eq {o' : List Int} (h : OppP l ps o) (h' : OppP l ps o') : o = o' := by
  apply List.ext_getElem?
  intro t
  by_cases ht : t < l.length
  · obtain ⟨p, hp, hh⟩ := h.mat.cover h.lt t (full_in ht)
    rcases hh with rfl | rfl
    · rw [(h.op p hp).1, (h'.op p hp).1]
    · rw [(h.op p hp).2 ht, (h'.op p hp).2 ht]
  · rw [List.getElem?_eq_none (by rw [h.len]; omega), List.getElem?_eq_none (by rw [h'.len]; omega)]
theorem OppP.ok (h : OppP l ps o) : oOk l.length o := by
  refine ⟨h.len, fun t x hx => ?_⟩
  have ht : t < l.length := by have := (List.getElem?_eq_some_iff.1 hx).1; have := h.len; omega
  have he := oE_eq hx
  obtain ⟨p, hp, b1, b2, hh⟩ := h.at_ ht
  rcases hh with ⟨h1, h2⟩ | ⟨h1, h2, h3⟩
  · unfold opp at h2
    split at h2
    · omega
    · omega
  · omega
theorem OppP.row (h : OppP l ps o) (hc : ∀ p ∈ ps, cst l p.1 p.2 ≠ -1) {p : Nat × Nat} (hp : p ∈ ps) : (p.2 = l.length → rowW l o p.1 = false) ∧ (p.2 < l.length → rowW l o p.1 = (whI l p.1 p.2 == (p.1 : Int)) ∧ rowW l o p.2 = (whI l p.1 p.2 == (p.2 : Int))) := by
  obtain ⟨b1, b2, _, _⟩ := h.mat.bits h.lt p hp
  obtain ⟨g1, g2⟩ := h.op p hp
  have e1 := oE_eq g1
  refine ⟨fun hl => ?_, fun hl => ⟨?_, ?_⟩⟩
  · unfold rowW
    rw [e1]
    unfold opp
    rw [if_pos hl]; rfl
  · unfold opp at e1
    rw [if_neg (by omega)] at e1
    unfold rowW
    rw [e1, if_neg (by omega), Int.toNat_natCast, Nat.min_eq_left (by omega), Nat.max_eq_right (by omega), whL_ok b1 hl (hc p hp)]
  · have e2 := oE_eq (g2 hl)
    unfold rowW
    rw [e2, if_neg (by omega), Int.toNat_natCast, Nat.min_eq_right (by omega), Nat.max_eq_left (by omega), whL_ok b1 hl (hc p hp)]
theorem OppP.all (h : OppP l ps o) (hc : ∀ p ∈ ps, cst l p.1 p.2 ≠ -1) (hs : o = foldO l.length (start2 l.length) ps) : allR l o (rWL l o) := by
  refine ⟨h.len, rWL_len l o, fun t ht => ?_, ?_⟩
  · have hv : vE (rWL l o) t = rowW l o t := vE_eq (rWL_get ht)
    obtain ⟨p, hp, b1, b2, hh⟩ := h.at_ ht
    obtain ⟨r1, r2⟩ := h.row hc hp
    have g := h.op p hp
    have hcp := hc p hp
    rcases hh with ⟨rfl, h2⟩ | ⟨rfl, h3, h2⟩
    · by_cases e : p.2 = l.length
      · have h4 : oE o p.1 = -1 := by rw [h2]; exact if_pos e
        rw [okR_bye h4]
        exact ⟨by rw [hv]; exact r1 e, by rw [← e]; exact hcp⟩
      · have h4 : oE o p.1 = (p.2 : Int) := by rw [h2]; exact if_neg e
        rw [okR_two (by omega), twoR_iff h4 (oE_eq (g.2 (by omega))) hv (Nat.min_eq_left (by omega)) (Nat.max_eq_right (by omega))]
        exact ⟨by omega, by omega, rfl, hcp, (r2 (by omega)).1⟩
    · have h4 : oE o p.1 = (p.2 : Int) := by rw [oE_eq g.1]; exact if_neg (by omega)
      rw [okR_two (by omega), twoR_iff h2 h4 hv (Nat.min_eq_right (by omega)) (Nat.max_eq_left (by omega))]
      exact ⟨by omega, by omega, rfl, hcp, (r2 h3).2⟩
  · have h1 := byN_H o l.length
    rw [hs, h.mat.sum (fun _ => rfl) h.lt (start2 l.length) (start2_len _) (fun t ht _ => rep_get _ ht), sumH_start (fun _ => rfl) _ (Nat.le_refl _), h.mat.byes h.lt, ← hs] at h1
    unfold fullS at h1
    rw [full_bit] at h1
    unfold szE at h1
    by_cases e : l.length % 2 = 1
    · rw [if_pos (by rw [decide_eq_true_eq]; omega)] at h1
      omega
    · rw [if_neg (by rw [decide_eq_true_eq]; omega)] at h1
      omega
theorem OppP.val (h : OppP l ps o) (hok : ∀ x ∈ l, numOk x) (hs : o = foldO l.length (start2 l.length) ps) : valR l o (rWL l o) = costL (cst l) ps := by
  by_cases hc : ∀ p ∈ ps, cst l p.1 p.2 ≠ -1
  · rw [valR_yes (h.all hc hs), sumR_H]
    conv => lhs; rw [hs]
    rw [h.mat.sum (fun t => by unfold adH; rw [if_neg (by decide), if_neg (by omega)]) h.lt (start2 l.length) (start2_len _) (fun t ht _ => rep_get _ ht), sumH_start (fun t => by unfold adH; rw [if_neg (by decide), if_neg (by omega)]) _ (Nat.le_refl _), Int.zero_add]
    exact (sumP_cost hok ps (fun p hp => ⟨(h.mat.bits h.lt p hp).1, hc p hp⟩)).1
  · obtain ⟨p, hp⟩ := Classical.not_forall.1 hc
    rw [Classical.not_imp, Classical.not_not] at hp
    obtain ⟨hp, hcp⟩ := hp
    obtain ⟨b1, b2, _, _⟩ := h.mat.bits h.lt p hp
    rw [costL_neg hp hcp]
    refine valR_row (i := p.1) (by omega) fun hR => ?_
    have e1 := oE_eq (h.op p hp).1
    by_cases e : p.2 = l.length
    · have h4 : oE o p.1 = -1 := by rw [e1]; exact if_pos e
      rw [okR_bye h4] at hR
      exact hR.2 (by rw [← e]; exact hcp)
    · have h4 : oE o p.1 = (p.2 : Int) := by rw [e1]; exact if_neg e
      rw [okR_two (by omega), twoR_iff h4 rfl rfl (Nat.min_eq_left (by omega)) (Nat.max_eq_right (by omega))] at hR
      exact hR.2.2.2.1 hcp
end
/-! the colours -/
def foldW (l : List Ent) (v : List Bool) (ps : List (Nat × Nat)) : List Bool := ps.foldl (putW l) v
theorem foldW_len (l : List Ent) : ∀ (ps : List (Nat × Nat)) (v : List Bool), (foldW l v ps).length = v.length
  | [], _ => rfl
  | p :: ps, v => by show (foldW l (putW l v p) ps).length = _; rw [foldW_len l ps, putW_len]
theorem putW_get {l : List Ent} {v : List Bool} {i j : Nat} (hl : v.length = l.length) (hij : i < j) (hj : j ≤ l.length) : (j = l.length → putW l v (i, j) = v) ∧ (j < l.length → (putW l v (i, j))[i]? = some (whI l i j == (i : Int)) ∧ (putW l v (i, j))[j]? = some (whI l i j == (j : Int))) ∧ ∀ t, t ≠ i → t ≠ j → (putW l v (i, j))[t]? = v[t]? := by
  unfold putW
  show (j = l.length → (if j = l.length then v else (v.set i (whI l i j == (i : Int))).set j (whI l i j == (j : Int))) = v) ∧ _
  by_cases e : j = l.length
  · simp only [if_pos e]
    exact ⟨fun _ => trivial, fun h => by omega, fun t h1 h2 => trivial⟩
  · simp only [if_neg e]
    refine ⟨fun h => absurd h e, fun h => ⟨by rw [List.getElem?_set_ne (by omega), List.getElem?_set_self (by omega)], by rw [List.getElem?_set_self (by rw [List.length_set]; omega)]⟩, fun t h1 h2 => by rw [List.getElem?_set_ne (by omega), List.getElem?_set_ne (by omega)]⟩
theorem Mat.foldW {l : List Ent} {s : Nat} {ps : List (Nat × Nat)} (h : Mat l.length s ps) : s < 256 → ∀ v : List Bool, v.length = l.length → (∀ t, s.testBit t = false → (foldW l v ps)[t]? = v[t]?) ∧ ∀ p ∈ ps, (p.2 = l.length → (foldW l v ps)[p.1]? = v[p.1]?) ∧ (p.2 < l.length → (foldW l v ps)[p.1]? = some (whI l p.1 p.2 == (p.1 : Int)) ∧ (foldW l v ps)[p.2]? = some (whI l p.1 p.2 == (p.2 : Int))) := by
  induction h using Mat.ind with
  | nil => exact fun _ v hl => ⟨fun t ht => rfl, fun p hp => absurd hp List.not_mem_nil⟩
  | @cons s i j ps hij hj bi bj hm ih =>
    intro hs v hl
    have hb := rest_bit hs (by omega) bi bj
    obtain ⟨g1, g2, g3⟩ := putW_get (v := v) hl hij hj
    obtain ⟨f1, f2⟩ := ih (restN_lt hs) (putW l v (i, j)) (by rw [putW_len]; exact hl)
    have e : Go.Proofs.YtjjjdoealagpcaaDoor.foldW l v ((i, j) :: ps) = Go.Proofs.YtjjjdoealagpcaaDoor.foldW l (putW l v (i, j)) ps := rfl
    rw [e]
    have hi0 : (restN s i j).testBit i = false := by rw [hb, bne_self_eq_false, Bool.and_false]; rfl
    have hj0 : (restN s i j).testBit j = false := by rw [hb, bne_self_eq_false, Bool.and_false]
    refine ⟨fun t ht => ?_, fun p hp => ?_⟩
    · rw [f1 t (by rw [hb, ht]; rfl), g3 t (fun e => by rw [e, bi] at ht; cases ht) (fun e => by rw [e, bj] at ht; cases ht)]
    · rcases List.mem_cons.1 hp with rfl | hp
      · refine ⟨fun h => ?_, fun h => ⟨?_, ?_⟩⟩
        · show (Go.Proofs.YtjjjdoealagpcaaDoor.foldW l (putW l v (i, j)) ps)[i]? = v[i]?
          rw [f1 i hi0, g1 h]
        · show (Go.Proofs.YtjjjdoealagpcaaDoor.foldW l (putW l v (i, j)) ps)[i]? = _
          rw [f1 i hi0]; exact (g2 h).1
        · show (Go.Proofs.YtjjjdoealagpcaaDoor.foldW l (putW l v (i, j)) ps)[j]? = _
          rw [f1 j hj0]; exact (g2 h).2
      · obtain ⟨q1, q2⟩ := f2 p hp
        refine ⟨fun h => ?_, q2⟩
        rw [q1 h]
        obtain ⟨b1, b2, c, d⟩ := hm.bits (restN_lt hs) p hp
        exact g3 p.1 (fun e => by rw [e, hi0] at c; cases c) (fun e => by rw [e, hj0] at c; cases c)
/-! the first lowest one, as a loop finds it -/
section
variable {α : Type}
def costO (V : α → Int) : Option α → Int
  | none => -1
  | some y => V y
def stepV (V : α → Int) (st : Option α) (x : α) : Option α := if 0 ≤ V x ∧ (costO V st < 0 ∨ V x < costO V st) then some x else st
theorem fold_pre (V : α → Int) {R : Int} (hR : 0 ≤ R) : ∀ (pre : List α) (st : Option α), (∀ x ∈ pre, V x = -1 ∨ R < V x) → (st = none ∨ ∃ y, st = some y ∧ R < V y) → (pre.foldl (stepV V) st = none ∨ ∃ y, pre.foldl (stepV V) st = some y ∧ R < V y)
  | [], st, _, h => h
  | x :: pre, st, hp, h => by
    refine fold_pre V hR pre (stepV V st x) (fun y hy => hp y (List.mem_cons_of_mem _ hy)) ?_
    unfold stepV
    split
    · rename_i hh
      exact Or.inr ⟨x, rfl, (hp x List.mem_cons_self).resolve_left (by omega)⟩
    · exact h
theorem fold_post (V : α → Int) {r : α} (hR : 0 ≤ V r) : ∀ (post : List α), (∀ x ∈ post, V x = -1 ∨ V r ≤ V x) → post.foldl (stepV V) (some r) = some r
  | [], _ => rfl
  | x :: post, hp => by
    have h1 := hp x List.mem_cons_self
    have : stepV V (some r) x = some r := if_neg (fun h => by
      have h2 := h.1
      have h3 : V r < 0 ∨ V x < V r := h.2
      omega)
    show post.foldl (stepV V) (stepV V (some r) x) = _
    rw [this]
    exact fold_post V hR post (fun y hy => hp y (List.mem_cons_of_mem _ hy))
theorem fold_none (V : α → Int) : ∀ (X : List α), (∀ x ∈ X, V x = -1) → X.foldl (stepV V) none = none
  | [], _ => rfl
  | x :: X, h => by
    have h1 := h x List.mem_cons_self
    have : stepV V none x = none := if_neg (fun h => by omega)
    show X.foldl (stepV V) (stepV V none x) = _
    rw [this]
    exact fold_none V X (fun y hy => h y (List.mem_cons_of_mem _ hy))
theorem fold_fm (V : α → Int) {X : List α} {r : α} (h : FM V X r) (hr : 0 ≤ V r) : X.foldl (stepV V) none = some r := by
  obtain ⟨pre, post, rfl, h1, h2⟩ := h.out
  rw [List.foldl_append, List.foldl_cons]
  have h3 : stepV V (pre.foldl (stepV V) none) r = some r := by
    refine if_pos ⟨hr, ?_⟩
    rcases fold_pre V hr pre none h1 (Or.inl rfl) with h | ⟨y, h, h4⟩
    · rw [h]; exact Or.inl (by show (-1 : Int) < 0; omega)
    · rw [h]; exact Or.inr h4
  rw [h3]
  exact fold_post V hr post h2
theorem FM.map {β : Type} {c : α → Int} {V : β → Int} {f : α → β} {X : List α} {r : α} (h : FM c X r) (he : ∀ x ∈ X, V (f x) = c x) : FM V (X.map f) (f r) := by
  obtain ⟨pre, post, rfl, h1, h2⟩ := h.out
  have er := he r (List.mem_append_right _ List.mem_cons_self)
  refine ⟨⟨pre.map f, post.map f, by simp, fun x hx => ?_, fun x hx => ?_⟩⟩
  · obtain ⟨y, hy, rfl⟩ := List.mem_map.1 hx
    rw [he y (List.mem_append_left _ hy), er]; exact h1 y hy
  · obtain ⟨y, hy, rfl⟩ := List.mem_map.1 hx
    rw [he y (List.mem_append_right _ (List.mem_cons_of_mem _ hy)), er]; exact h2 y hy
end
noncomputable def valW (l : List Ent) (o : List Int) : Int := valR l o (rWL l o)
noncomputable def bestO (l : List Ent) (k : Nat) : Option (List Int) := ((allW l.length (start2 l.length) (decide (l.length % 2 = 1))).take k).foldl (stepV (valW l)) none
def allL (l : List Ent) : List (List Int) := allW l.length (start2 l.length) (decide (l.length % 2 = 1))
theorem ways_val {l : List Ent} (h7 : l.length ≤ 7) (hok : ∀ x ∈ l, numOk x) {ps : List (Nat × Nat)} (hp : ps ∈ waysP l) : valW l (foldO l.length (start2 l.length) ps) = costL (cst l) ps :=
  (OppP.of h7 hp (start2_len _)).val hok rfl
theorem allL_ok {l : List Ent} (h7 : l.length ≤ 7) {o : List Int} (ho : o ∈ allL l) : oOk l.length o := by
  unfold allL at ho
  rw [all_ways h7] at ho
  obtain ⟨ps, hp, rfl⟩ := List.mem_map.1 ho
  exact (OppP.of h7 hp (start2_len _)).ok
theorem cst_or {l : List Ent} (hok : ∀ x ∈ l, numOk x) (i j : Nat) : cst l i j = -1 ∨ 0 ≤ cst l i j := by
  have := cst_bd hok i j
  omega
/-- the best pairing of the list is the one that is read out of the table -/
theorem best_is {l : List Ent} (h7 : l.length ≤ 7) (hok : ∀ x ∈ l, numOk x) :
    (bst l (fullS l) = -1 ∧ (allL l).foldl (stepV (valW l)) none = none) ∨ (0 ≤ bst l (fullS l) ∧ (allL l).foldl (stepV (valW l)) none = some (resO l) ∧ valW l (resO l) = bst l (fullS l) ∧ rWL l (resO l) = resW l ∧ resO l ∈ allL l) := by
  have hA : allL l = (waysP l).map (foldO l.length (start2 l.length)) := all_ways h7
  rcases fm_all (C := cst l) rfl (szE_le h7).1 (cst_or hok) (fullS l) (fullS l) (Nat.le_refl _) (fullS_lt h7).1 (full_even (szE_le h7).1 (szE_le h7).2) with ⟨h1, h2⟩ | ⟨h1, h2, h3⟩
  · refine Or.inl ⟨h1, ?_⟩
    rw [hA]
    refine fold_none _ _ fun o ho => ?_
    obtain ⟨ps, hp, rfl⟩ := List.mem_map.1 ho
    rw [ways_val h7 hok hp]
    exact h2 ps hp
  · have h2' : FM (costL (cst l)) (waysP l) (pairsL l) := h2
    have hin : pairsL l ∈ waysP l := by
      obtain ⟨pre, post, e, _, _⟩ := h2'.out
      rw [e]; exact List.mem_append_right _ List.mem_cons_self
    have hO := OppP.of h7 hin (start2_len l.length)
    have hO2 : OppP l (pairsL l) (resO l) := OppP.of h7 hin (now := List.replicate l.length 0) (by simp)
    have hres : foldO l.length (start2 l.length) (pairsL l) = resO l := hO.eq hO2
    have hc3 : costL (cst l) (pairsL l) = bst l (fullS l) := h3
    have hv := ways_val h7 hok hin
    rw [hres, hc3] at hv
    have hb0 : 0 ≤ bst l (fullS l) := h1
    refine Or.inr ⟨hb0, ?_, hv, ?_, ?_⟩
    · rw [hA, ← hres]
      refine fold_fm _ (h2'.map fun ps hp => ways_val h7 hok hp) ?_
      rw [hres, hv]; exact hb0
    · have hc : ∀ p ∈ pairsL l, cst l p.1 p.2 ≠ -1 := fun p hp he => by
        rw [costL_neg hp he] at hc3
        omega
      obtain ⟨_, w2⟩ := hO2.mat.foldW hO2.lt (List.replicate l.length false) (by simp)
      apply List.ext_getElem?
      intro t
      by_cases ht : t < l.length
      · rw [rWL_get ht]
        obtain ⟨p, hp, b1, b2, hh⟩ := hO2.at_ ht
        obtain ⟨r1, r2⟩ := hO2.row hc hp
        obtain ⟨q1, q2⟩ := w2 p hp
        show _ = (foldW l (List.replicate l.length false) (pairsL l))[t]?
        rcases hh with ⟨rfl, _⟩ | ⟨rfl, h4, _⟩
        · by_cases e : p.2 = l.length
          · rw [q1 e, r1 e, rep_get _ ht]
          · rw [(q2 (by omega)).1, (r2 (by omega)).1]
        · rw [(q2 h4).2, (r2 h4).2]
      · rw [List.getElem?_eq_none (by rw [rWL_len]; omega), List.getElem?_eq_none (by
          show (foldW l (List.replicate l.length false) (pairsL l)).length ≤ t
          rw [foldW_len, List.length_replicate]; omega)]
    · rw [hA, ← hres]
      exact List.mem_map_of_mem hin
end Go.Proofs.YtjjjdoealagpcaaDoor
