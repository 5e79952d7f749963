/- Layer 43: the list of all pairings; pairings as lists of pairs, plain. -/
import Derived.Test.YtjjjdoealagpcaaDoorHi
import Derived.Test.YtjjjdoealagpcaaDoorHf
namespace Go.Proofs.YtjjjdoealagpcaaDoor
open Go Go.RowKit
set_option linter.unusedSimpArgs false
set_option linter.unusedVariables false
/-! bits of a set without two of its elements -/
def clrAll : Bool := (List.range 256).all fun s => (List.range 8).all fun i => !s.testBit i || (decide (2 ^ i ≤ s) && (List.range 8).all fun k => (s - 2 ^ i).testBit k == (s.testBit k && k != i))
theorem clrAll_true : clrAll = true := by decide +kernel
theorem clr_bit {s i : Nat} (hs : s < 256) (hi : i < 8) (h : s.testBit i = true) (k : Nat) : (s - 2 ^ i).testBit k = (s.testBit k && k != i) := by
  by_cases hk : k < 8
  · have h0 := clrAll_true
    unfold clrAll at h0
    have h1 := List.all_eq_true.1 (List.all_eq_true.1 h0 s (List.mem_range.2 hs)) i (List.mem_range.2 hi)
    rw [h] at h1
    simp only [Bool.not_true, Bool.false_or, Bool.and_eq_true] at h1
    have h2 := List.all_eq_true.1 h1.2 k (List.mem_range.2 hk)
    exact eq_of_beq h2
  · have h2 : 2 ^ 8 ≤ 2 ^ k := Nat.pow_le_pow_right (show 2 > 0 by decide) (by omega)
    have h3 := Nat.lt_of_le_of_lt (Nat.sub_le s (2 ^ i)) hs
    rw [Nat.testBit_lt_two_pow (by omega), Nat.testBit_lt_two_pow (by omega)]
    rfl
theorem rest_bit {s i j : Nat} (hs : s < 256) (hij : i ≠ j) (bi : s.testBit i = true) (bj : s.testBit j = true) (k : Nat) : (restN s i j).testBit k = (s.testBit k && k != i && k != j) := by
  have h1 := clr_bit hs (testBit_lt8 hs bi) bi
  have h2 : (s - 2 ^ i).testBit j = true := by
    rw [h1, bj, bne_iff_ne.2 (Ne.symm hij)]; rfl
  have h3 := clr_bit (s := s - 2 ^ i) (Nat.lt_of_le_of_lt (Nat.sub_le _ _) hs) (testBit_lt8 hs bj) h2 k
  show (s - 2 ^ i - 2 ^ j).testBit k = _
  rw [h3, h1]
theorem restN_lt {s i j : Nat} (h : s < 256) : restN s i j < 256 := Nat.lt_of_le_of_lt (Nat.le_trans (Nat.sub_le _ _) (Nat.sub_le _ _)) h
/-- what is not yet paired -/
structure RestS (len : Nat) (now : List Int) (free : Bool) (s : Nat) : Prop where
  el : ∀ j, j < len → (s.testBit j = true ↔ now[j]? = some (-2))
  by_ : s.testBit len = free
theorem RestS.bye {len : Nat} {now : List Int} {s i : Nat} (h : RestS len now true s) (hl : now.length = len) (hs : s < 256) (hi : i < len) (bi : s.testBit i = true) : RestS len (now.set i (-1)) false (restN s i len) := by
  have hb := rest_bit hs (by omega) bi h.by_
  refine ⟨fun j hj => ?_, by rw [hb, bne_self_eq_false, Bool.and_false]⟩
  rw [hb, List.getElem?_set]
  by_cases e : i = j
  · subst e
    rw [bne_self_eq_false, Bool.and_false, Bool.false_and, if_pos rfl, if_pos (by omega)]
    exact ⟨fun h => (by cases h), fun h => absurd (Option.some.inj h) (by decide)⟩
  · rw [if_neg e, ← h.el j hj, bne_iff_ne.2 (fun hh => e hh.symm), bne_iff_ne.2 (show j ≠ len by omega), Bool.and_true, Bool.and_true]
theorem RestS.two {len : Nat} {now : List Int} {free : Bool} {s i k : Nat} (h : RestS len now free s) (hl : now.length = len) (hs : s < 256) (hik : i < k) (hk : k < len) (bi : s.testBit i = true) (bk : s.testBit k = true) : RestS len ((now.set i (k : Int)).set k (i : Int)) free (restN s i k) := by
  have hb := rest_bit hs (by omega) bi bk
  refine ⟨fun j hj => ?_, by rw [hb, bne_iff_ne.2 (show len ≠ i by omega), bne_iff_ne.2 (show len ≠ k by omega), Bool.and_true, Bool.and_true]; exact h.by_⟩
  rw [hb, List.getElem?_set, List.getElem?_set, List.length_set]
  by_cases e : k = j
  · subst e
    rw [bne_self_eq_false, Bool.and_false, if_pos rfl, if_pos (by omega)]
    exact ⟨fun h => (by cases h), fun h => absurd (Option.some.inj h) (by omega)⟩
  · rw [if_neg e, bne_iff_ne.2 (fun hh => e hh.symm), Bool.and_true]
    by_cases e2 : i = j
    · subst e2
      rw [bne_self_eq_false, Bool.and_false, if_pos rfl, if_pos (by omega)]
      exact ⟨fun h => (by cases h), fun h => absurd (Option.some.inj h) (by omega)⟩
    · rw [if_neg e2, bne_iff_ne.2 (fun hh => e2 hh.symm), Bool.and_true]
      exact h.el j hj
theorem flat_filter {α β : Type} (p : α → Bool) (f : α → List β) : ∀ L : List α, (L.filter p).flatMap f = L.flatMap fun a => if p a = true then f a else []
  | [] => rfl
  | a :: L => by
    rw [List.flatMap_cons, ← flat_filter p f L, List.filter_cons]
    by_cases h : p a = true
    · rw [if_pos h, if_pos h, List.flatMap_cons]
    · rw [if_neg h, if_neg h, List.nil_append]
theorem flat_congr {α β : Type} {f g : α → List β} : ∀ {L : List α}, (∀ a ∈ L, f a = g a) → L.flatMap f = L.flatMap g
  | [], _ => rfl
  | a :: L, h => by
    rw [List.flatMap_cons, List.flatMap_cons, h a List.mem_cons_self, flat_congr (fun b hb => h b (List.mem_cons_of_mem _ hb))]
theorem map_flat {α β γ : Type} (g : β → γ) (f : α → List β) : ∀ L : List α, (L.flatMap f).map g = L.flatMap fun a => (f a).map g
  | [] => rfl
  | a :: L => by rw [List.flatMap_cons, List.map_append, map_flat g f L, List.flatMap_cons]
def foldO (len : Nat) (now : List Int) (ps : List (Nat × Nat)) : List Int := ps.foldl (putO len) now
theorem foldO_cons (len : Nat) (now : List Int) (p : Nat × Nat) : (fun ps => foldO len now (p :: ps)) = foldO len (putO len now p) := rfl
theorem foldO_len (len : Nat) : ∀ (ps : List (Nat × Nat)) (now : List Int), (foldO len now ps).length = now.length
  | [], _ => rfl
  | p :: ps, now => by show (foldO len (putO len now p) ps).length = _; rw [foldO_len len ps, putO_len]
theorem map_cons_fold (len : Nat) (now : List Int) (p : Nat × Nat) (L : List (List (Nat × Nat))) : (L.map (List.cons p)).map (foldO len now) = L.map (foldO len (putO len now p)) := by
  rw [List.map_map]; rfl
/-- the list of all pairings -/
theorem allW_gen {len n : Nat} (hn : n = len + len % 2) (hn8 : n ≤ 8) : ∀ (k s m : Nat) (now : List Int) (free : Bool), s ≤ k → s < 2 ^ n → cntE s % 2 = 0 → now.length = len → now.count (-2) ≤ m → RestS len now free s → allW m now free = (genL len k s).map (foldO len now) := by
  intro k
  induction k with
  | zero =>
    intro s m now free hk hs hc hl hm hr
    obtain rfl : s = 0 := by omega
    have hf : free = false := by rw [← hr.by_]; exact Nat.zero_testBit _
    subst hf
    rw [allW_full m (fst2_none fun j x hx he => by
      subst he
      have hj := (List.getElem?_eq_some_iff.1 hx).1
      have := (hr.el j (by omega)).2 hx
      rw [Nat.zero_testBit] at this
      cases this)]
    rfl
  | succ k ih =>
    intro s m now free hk hs hc hl hm hr
    by_cases h0 : s = 0
    · subst h0
      have hf : free = false := by rw [← hr.by_]; exact Nat.zero_testBit _
      subst hf
      rw [allW_full m (fst2_none fun j x hx he => by
        subst he
        have hj := (List.getElem?_eq_some_iff.1 hx).1
        have := (hr.el j (by omega)).2 hx
        rw [Nat.zero_testBit] at this
        cases this), genL_zero]
      rfl
    have hs2 : s < 256 := Nat.lt_of_lt_of_le hs (full_lt hn8)
    obtain ⟨l1, l2, l3⟩ := low_in hs2 h0
    have hil : lowE s < len := low_len (by omega) (hn ▸ hs) hs2 h0 hc
    have hI := (hr.el _ hil).1 l1
    have hfst : fst2 now = lowE s := fst2_is hI fun j x hj hx he => by
      subst he
      have := l3 j (by omega) ((hr.el j (by omega)).2 hx)
      omega
    have hcnt : 0 < now.count (-2) := List.count_pos_iff.2 (List.mem_of_getElem? hI)
    obtain ⟨m, rfl⟩ : ∃ m', m = m' + 1 := ⟨m - 1, by omega⟩
    have hrest : ∀ j, lowE s < j → s.testBit j = true → restN s (lowE s) j ≤ k ∧ restN s (lowE s) j < 2 ^ n ∧ cntE (restN s (lowE s) j) % 2 = 0 := fun j hj hb => by
      obtain ⟨_, r1, r2, r3⟩ := rest_eq hs2 l2 (testBit_lt8 hs2 hb) (by omega) l1 hb
      exact ⟨by omega, by omega, by omega⟩
    rw [allW_part m hfst (by omega), genL_succ h0, map_flat, hl]
    unfold partW
    have htail : (List.range' (lowE s + 1) (len - (lowE s + 1))).flatMap (grpW m now free (lowE s)) = ((List.range' (lowE s + 1) (len - (lowE s + 1))).filter fun j => s.testBit j).flatMap fun j => ((genL len k (restN s (lowE s) j)).map (List.cons (lowE s, j))).map (foldO len now) := by
      rw [flat_filter]
      refine flat_congr fun j hj => ?_
      rw [List.mem_range'] at hj
      obtain ⟨q, hq, rfl⟩ := hj
      generalize hJ : lowE s + 1 + 1 * q = j
      have hjl : j < len := by omega
      obtain ⟨x, hx⟩ : ∃ x, now[j]? = some x := ⟨_, List.getElem?_eq_getElem (by omega)⟩
      have hg : now.getD j 0 = x := by rw [List.getD_eq_getElem?_getD, hx]; rfl
      unfold grpW
      rw [hg]
      by_cases hb : s.testBit j = true
      · have hx2 := (hr.el j hjl).1 hb
        obtain rfl : x = -2 := Option.some.inj (hx.symm.trans hx2)
        rw [if_pos rfl, if_pos hb, map_cons_fold]
        obtain ⟨r1, r2, r3⟩ := hrest j (by omega) hb
        have hpo : putO len now (lowE s, j) = (now.set (lowE s) (j : Int)).set j (lowE s : Int) := if_neg (by show j ≠ len; omega)
        rw [hpo]
        refine ih _ m _ free r1 r2 r3 (by rw [List.length_set, List.length_set]; exact hl) ?_ (hr.two hl hs2 (by omega) hjl l1 hb)
        have h1 := cnt_set hI (x := (j : Int)) (by omega)
        have h3 := cnt_le (now := now.set (lowE s) (j : Int)) (i := j) (x := (lowE s : Int)) (by omega)
        omega
      · rw [if_neg (fun he => hb ((hr.el j hjl).2 (by rw [hx, he]))), if_neg hb]
    rw [htail]
    cases free with
    | false =>
      rw [if_neg (by decide), List.nil_append]
      unfold ordL
      split
      · rw [List.filter_cons_of_neg (by rw [hr.by_]; decide)]
      · rfl
    | true =>
      have hodd : len % 2 = 1 := by
        have := bit_lt hs hr.by_
        omega
      unfold ordL
      rw [if_pos hodd, if_pos rfl, List.filter_cons_of_pos (by exact hr.by_), List.flatMap_cons, map_cons_fold]
      have hpo : putO len now (lowE s, len) = now.set (lowE s) (-1) := if_pos rfl
      rw [hpo]
      obtain ⟨r1, r2, r3⟩ := hrest len hil hr.by_
      rw [ih _ m _ false r1 r2 r3 (by rw [List.length_set]; exact hl) (by
        have h1 := cnt_set hI (x := -1) (by decide)
        omega) (hr.bye hl hs2 hil l1)]
/-! pairings as lists of pairs -/
def MatR (len : Nat) : List (Nat × Nat) → Nat → Prop
  | [], s => s = 0
  | p :: ps, s => p.1 < p.2 ∧ p.2 ≤ len ∧ s.testBit p.1 = true ∧ s.testBit p.2 = true ∧ MatR len ps (restN s p.1 p.2)
def Mat (len s : Nat) (ps : List (Nat × Nat)) : Prop := MatR len ps s
theorem Mat.nil {len : Nat} : Mat len 0 [] := rfl
theorem Mat.cons {len s i j : Nat} {ps : List (Nat × Nat)} (h1 : i < j) (h2 : j ≤ len) (h3 : s.testBit i = true) (h4 : s.testBit j = true) (h5 : Mat len (restN s i j) ps) : Mat len s ((i, j) :: ps) := ⟨h1, h2, h3, h4, h5⟩
theorem Mat.ind {len : Nat} {motive : (s : Nat) → (ps : List (Nat × Nat)) → Mat len s ps → Prop} (nil : motive 0 [] Mat.nil)
    (cons : ∀ {s i j : Nat} {ps : List (Nat × Nat)} (hij : i < j) (hj : j ≤ len) (bi : s.testBit i = true) (bj : s.testBit j = true) (hm : Mat len (restN s i j) ps), motive (restN s i j) ps hm → motive s ((i, j) :: ps) (Mat.cons hij hj bi bj hm)) :
    ∀ {s : Nat} {ps : List (Nat × Nat)} (h : Mat len s ps), motive s ps h := by
  intro s ps
  induction ps generalizing s with
  | nil =>
    intro h
    have h0 : s = 0 := h
    subst h0
    exact nil
  | cons p ps ih =>
    intro h
    obtain ⟨i, j⟩ := p
    obtain ⟨h1, h2, h3, h4, h5⟩ := h
    exact cons h1 h2 h3 h4 h5 (ih h5)
theorem gen_mat {len n : Nat} (hn : n = len + len % 2) (hn8 : n ≤ 8) : ∀ (k s : Nat) (ps : List (Nat × Nat)), s ≤ k → s < 2 ^ n → cntE s % 2 = 0 → ps ∈ genL len k s → Mat len s ps := by
  intro k
  induction k with
  | zero =>
    intro s ps hk hs hc hp
    obtain rfl : s = 0 := by omega
    obtain rfl := List.mem_singleton.1 hp
    exact .nil
  | succ k ih =>
    intro s ps hk hs hc hp
    by_cases h0 : s = 0
    · subst h0
      rw [genL_zero] at hp
      obtain rfl := List.mem_singleton.1 hp
      exact .nil
    have hs2 : s < 256 := Nat.lt_of_lt_of_le hs (full_lt hn8)
    obtain ⟨l1, l2, l3⟩ := low_in hs2 h0
    have hil : lowE s < len := low_len (by omega) (hn ▸ hs) hs2 h0 hc
    rw [genL_succ h0] at hp
    obtain ⟨j, hj, hx⟩ := List.mem_flatMap.1 hp
    obtain ⟨y, hy, rfl⟩ := List.mem_map.1 hx
    obtain ⟨j1, j2, j3⟩ := mem_filt hil hj
    obtain ⟨_, r1, r2, r3⟩ := rest_eq hs2 l2 (testBit_lt8 hs2 j3) (by omega) l1 j3
    exact .cons j1 j2 l1 j3 (ih _ y (by omega) (by omega) (by omega) hy)
/-- what is written at the two of a pair -/
def opp (len j : Nat) : Int := if j = len then -1 else (j : Int)
theorem putO_get {len : Nat} {now : List Int} {i j : Nat} (hl : now.length = len) (hij : i < j) (hj : j ≤ len) : (putO len now (i, j))[i]? = some (opp len j) ∧ (j < len → (putO len now (i, j))[j]? = some (i : Int)) ∧ ∀ t, t ≠ i → t ≠ j → (putO len now (i, j))[t]? = now[t]? := by
  unfold putO opp
  show (if j = len then now.set i (-1) else (now.set i (j : Int)).set j (i : Int))[i]? = _ ∧ _
  by_cases e : j = len
  · simp only [if_pos e]
    refine ⟨by rw [List.getElem?_set_self (by omega)], fun h => by omega, fun t h1 h2 => List.getElem?_set_ne (by omega)⟩
  · simp only [if_neg e]
    refine ⟨by rw [List.getElem?_set_ne (by omega), List.getElem?_set_self (by omega)], fun h => by rw [List.getElem?_set_self (by rw [List.length_set]; omega)], fun t h1 h2 => by rw [List.getElem?_set_ne (by omega), List.getElem?_set_ne (by omega)]⟩
theorem Mat.bits {len s : Nat} {ps : List (Nat × Nat)} (h : Mat len s ps) : s < 256 → ∀ p ∈ ps, p.1 < p.2 ∧ p.2 ≤ len ∧ s.testBit p.1 = true ∧ s.testBit p.2 = true := by
  induction h using Mat.ind with
  | nil => exact fun _ p hp => absurd hp List.not_mem_nil
  | @cons s i j ps hij hj bi bj hm ih =>
    intro hs p hp
    rcases List.mem_cons.1 hp with rfl | hp
    · exact ⟨hij, hj, bi, bj⟩
    · have hlt : restN s i j < 256 := restN_lt hs
      obtain ⟨a, b, c, d⟩ := ih hlt p hp
      rw [rest_bit hs (by omega) bi bj] at c d
      simp only [Bool.and_eq_true] at c d
      exact ⟨a, b, c.1.1, d.1.1⟩
theorem Mat.cover {len s : Nat} {ps : List (Nat × Nat)} (h : Mat len s ps) : s < 256 → ∀ t, s.testBit t = true → ∃ p ∈ ps, t = p.1 ∨ t = p.2 := by
  induction h using Mat.ind with
  | nil => exact fun _ t ht => by rw [Nat.zero_testBit] at ht; cases ht
  | @cons s i j ps hij hj bi bj hm ih =>
    intro hs t ht
    by_cases h1 : t = i
    · exact ⟨(i, j), List.mem_cons_self, Or.inl h1⟩
    by_cases h2 : t = j
    · exact ⟨(i, j), List.mem_cons_self, Or.inr h2⟩
    obtain ⟨p, hp, hh⟩ := ih (restN_lt hs) t (by rw [rest_bit hs (by omega) bi bj, ht, bne_iff_ne.2 h1, bne_iff_ne.2 h2]; rfl)
    exact ⟨p, List.mem_cons_of_mem _ hp, hh⟩
theorem Mat.fold {len s : Nat} {ps : List (Nat × Nat)} (h : Mat len s ps) : s < 256 → ∀ now : List Int, now.length = len → (∀ t, s.testBit t = false → (foldO len now ps)[t]? = now[t]?) ∧ ∀ p ∈ ps, (foldO len now ps)[p.1]? = some (opp len p.2) ∧ (p.2 < len → (foldO len now ps)[p.2]? = some (p.1 : Int)) := by
  induction h using Mat.ind with
  | nil => exact fun _ now hl => ⟨fun t ht => rfl, fun p hp => absurd hp List.not_mem_nil⟩
  | @cons s i j ps hij hj bi bj hm ih =>
    intro hs now hl
    have hb := rest_bit hs (by omega) bi bj
    obtain ⟨g1, g2, g3⟩ := putO_get (now := now) hl hij hj
    obtain ⟨f1, f2⟩ := ih (restN_lt hs) (putO len now (i, j)) (by rw [putO_len]; exact hl)
    have e : foldO len now ((i, j) :: ps) = foldO len (putO len now (i, j)) ps := rfl
    rw [e]
    refine ⟨fun t ht => ?_, fun p hp => ?_⟩
    · rw [f1 t (by rw [hb, ht]; rfl), g3 t (fun e => by rw [e, bi] at ht; cases ht) (fun e => by rw [e, bj] at ht; cases ht)]
    · rcases List.mem_cons.1 hp with rfl | hp
      · refine ⟨?_, fun h => ?_⟩
        · show (foldO len (putO len now (i, j)) ps)[i]? = _
          rw [f1 i (by rw [hb, bne_self_eq_false, Bool.and_false]; rfl)]; exact g1
        · show (foldO len (putO len now (i, j)) ps)[j]? = _
          rw [f1 j (by rw [hb, bne_self_eq_false, Bool.and_false])]; exact g2 h
      · exact f2 p hp
/-! sums over all -/
def sumH (h : Nat → Int → Int) (o : List Int) : Nat → Int
  | 0 => 0
  | k + 1 => sumH h o k + h k (oE o k)
theorem sumH_far {h : Nat → Int → Int} {o : List Int} {i : Nat} (x : Int) : ∀ k, k ≤ i → sumH h (o.set i x) k = sumH h o k
  | 0, _ => rfl
  | k + 1, hk => by
    show sumH h (o.set i x) k + h k (oE (o.set i x) k) = sumH h o k + h k (oE o k)
    rw [sumH_far x k (by omega)]
    unfold oE
    rw [List.getD_eq_getElem?_getD, List.getD_eq_getElem?_getD, List.getElem?_set_ne (by omega)]
theorem sumH_set {h : Nat → Int → Int} {o : List Int} {i : Nat} (x : Int) (hi : i < o.length) : ∀ k, i < k → sumH h (o.set i x) k = sumH h o k - h i (oE o i) + h i x
  | 0, hk => by omega
  | k + 1, hk => by
    show sumH h (o.set i x) k + h k (oE (o.set i x) k) = sumH h o k + h k (oE o k) - h i (oE o i) + h i x
    by_cases e : i = k
    · subst e
      rw [sumH_far x i (Nat.le_refl _), show oE (o.set i x) i = x from oE_eq (List.getElem?_set_self hi)]
      omega
    · rw [sumH_set x hi k (by omega), show oE (o.set i x) k = oE o k by unfold oE; rw [List.getD_eq_getElem?_getD, List.getD_eq_getElem?_getD, List.getElem?_set_ne e]]
      omega
/-- what a pair adds -/
def addH (h : Nat → Int → Int) (len : Nat) (p : Nat × Nat) : Int := if p.2 = len then h p.1 (-1) else h p.1 (p.2 : Int) + h p.2 (p.1 : Int)
def sumP (h : Nat → Int → Int) (len : Nat) : List (Nat × Nat) → Int
  | [] => 0
  | p :: ps => addH h len p + sumP h len ps
theorem Mat.sum {h : Nat → Int → Int} (h2 : ∀ t, h t (-2) = 0) {len s : Nat} {ps : List (Nat × Nat)} (hm : Mat len s ps) : s < 256 → ∀ now : List Int, now.length = len → (∀ t, t < len → s.testBit t = true → now[t]? = some (-2)) → sumH h (foldO len now ps) len = sumH h now len + sumP h len ps := by
  induction hm using Mat.ind with
  | nil => exact fun _ now _ _ => (Int.add_zero _).symm
  | @cons s i j ps hij hj bi bj hm ih =>
    intro hs now hl hnow
    have hb := rest_bit hs (by omega) bi bj
    have e : foldO len now ((i, j) :: ps) = foldO len (putO len now (i, j)) ps := rfl
    obtain ⟨g1, g2, g3⟩ := putO_get (now := now) hl hij hj
    rw [e, ih (restN_lt hs) _ (by rw [putO_len]; exact hl) (fun t ht hbt => by
      rw [hb] at hbt
      simp only [Bool.and_eq_true, bne_iff_ne] at hbt
      rw [g3 t hbt.1.2 hbt.2]
      exact hnow t ht hbt.1.1)]
    have hi := hnow i (by omega) bi
    show _ = sumH h now len + (addH h len (i, j) + sumP h len ps)
    unfold putO addH
    show sumH h (if j = len then now.set i (-1) else (now.set i (j : Int)).set j (i : Int)) len + _ = sumH h now len + ((if j = len then h i (-1) else h i (j : Int) + h j (i : Int)) + _)
    by_cases ej : j = len
    · rw [if_pos ej, if_pos ej, sumH_set _ (by omega) len (by omega), oE_eq hi, h2]
      omega
    · rw [if_neg ej, if_neg ej, sumH_set _ (by rw [List.length_set]; omega) len (by omega), sumH_set _ (by omega) len (by omega), oE_eq hi, h2, show oE (now.set i (j : Int)) j = -2 from oE_eq (by rw [List.getElem?_set_ne (by omega)]; exact hnow j (by omega) bj), h2]
      omega
end Go.Proofs.YtjjjdoealagpcaaDoor
