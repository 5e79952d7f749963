/- Layer 3: what Text writes, Parse reads. Printed by gen_bu.py. -/
import Derived.Test.YtjglpphfkkabnaaDoorBr
namespace Go.Proofs.YtjglpphfkkabnaaDoor
open Go.RowKit
set_option linter.unusedSimpArgs false
set_option linter.unusedVariables false

/-- bytes parted at strokes -/
def wls : List UInt8 → List (List UInt8)
  | [] => [[]]
  | c :: t => if c = 47 then [] :: wls t else (wls t).modifyHead (c :: ·)
theorem wls_cons : ∀ l : List UInt8, ∃ h r, wls l = h :: r
  | [] => ⟨[], [], rfl⟩
  | c :: t => by
    obtain ⟨h, r, e⟩ := wls_cons t
    by_cases hc : c = 47
    · exact ⟨[], wls t, by simp [wls, hc]⟩
    · exact ⟨c :: h, r, by simp [wls, hc, e]⟩
theorem idx_stroke (t : List UInt8) : Lib.index (47 :: t) [47] = 0 := by rw [Lib.index]; simp [List.isPrefixOf]
theorem idx_byte (c : UInt8) (t : List UInt8) (h : c ≠ 47) : Lib.index (c :: t) [47] = if Lib.index t [47] == -1 then -1 else Lib.index t [47] + 1 := by
  have hp : ([47] : List UInt8).isPrefixOf (c :: t) = false := by simp [List.isPrefixOf, Ne.symm h]
  rw [Lib.index, hp]; simp
theorem splitK_stroke (t : List UInt8) (k : Nat) : Lib.splitK [47] 0 (k + 1) (47 :: t) = [] :: Lib.splitK [47] 0 k t := by
  rw [Lib.splitK, idx_stroke]
  simp
theorem splitK_byte (c : UInt8) (h : c ≠ 47) (t : List UInt8) : ∀ k : Nat, Lib.splitK [47] 0 k (c :: t) = (Lib.splitK [47] 0 k t).modifyHead (c :: ·)
  | 0 => rfl
  | k + 1 => by
    rw [Lib.splitK, Lib.splitK, idx_byte c t h]
    by_cases hm : Lib.index t [47] = -1
    · simp [hm]
    · have hge := Lib.index_ge t [47]
      obtain ⟨j, hj⟩ : ∃ j : Nat, Lib.index t [47] = j := ⟨(Lib.index t [47]).toNat, by omega⟩
      have h1 : ((j : Int) == -1) = false := by rw [beq_eq_false_iff_ne]; omega
      have h2 : ((j : Int) + 1 == -1) = false := by rw [beq_eq_false_iff_ne]; omega
      have h3 : ((j : Int) + 1).toNat = j + 1 := by omega
      rw [hj, h1]
      simp only [Bool.false_eq_true, if_false, h2, h3, Int.toNat_natCast, List.length_cons, List.length_nil, Nat.add_zero, List.modifyHead_cons, List.take_succ_cons]
      rfl
theorem splitK_all : ∀ l : List UInt8, Lib.splitK [47] 0 (Lib.count l [47]) l = wls l
  | [] => by rw [Lib.count_miss (by simp [Lib.index])]; rfl
  | c :: t => by
    by_cases h : c = 47
    · subst h
      rw [Lib.count_cons_eq, Nat.add_comm, splitK_stroke, splitK_all t]
      simp [wls]
    · rw [Lib.count_cons_ne _ _ _ h, splitK_byte c h, splitK_all t]
      simp [wls, h]
theorem wls_app : ∀ (x l : List UInt8), (∀ c, c ∈ x → c ≠ 47) → wls (x ++ l) = (wls l).modifyHead (x ++ ·)
  | [], l, _ => by
    obtain ⟨h, r, e⟩ := wls_cons l
    simp [e]
  | c :: x, l, hx => by
    obtain ⟨h, r, e⟩ := wls_cons l
    have hc : c ≠ 47 := hx c (by simp)
    have ih := wls_app x l (fun d hd => hx d (by simp [hd]))
    rw [e] at ih
    show wls (c :: (x ++ l)) = _
    simp [wls, hc, ih, e]
/-- a line's words are the words that it was joined of -/
theorem wls_join : ∀ (xs : List (List UInt8)), xs ≠ [] → (∀ x, x ∈ xs → ∀ c, c ∈ x → c ≠ 47) → wls (Lib.join xs [47]) = xs
  | [], h, _ => absurd rfl h
  | [x], _, hx => by
    have := wls_app x [] (hx x (by simp))
    rw [List.append_nil] at this
    simp [Lib.join, List.intercalate, this, wls]
  | x :: y :: l, _, hx => by
    have ih := wls_join (y :: l) (by simp) (fun z hz => hx z (by simp [hz]))
    have e : Lib.join (x :: y :: l) [47] = x ++ 47 :: Lib.join (y :: l) [47] := by simp [Lib.join, List.intercalate]
    rw [e, wls_app x _ (hx x (by simp))]
    simp [wls, ih]
theorem ranks_join (xs : List ByteArray) (h : xs ≠ []) (hx : ∀ x, x ∈ xs → ∀ c, c ∈ x.data.toList → c ≠ 47) : ranksB (joinS xs) = xs.reverse := by
  unfold ranksB
  congr 1
  have hi : ∀ x y : ByteArray, x.data.toList = y.data.toList → x = y := fun x y h => ba_eq h
  refine (List.map_inj_right hi).1 ?_
  rw [Lib.splitB_data]
  refine (splitK_all (joinS xs).data.toList).trans ?_
  show wls (Lib.join (xs.map (·.data.toList)) [47]) = _
  refine wls_join _ (by simpa using h) fun x hm => ?_
  obtain ⟨y, hy, rfl⟩ := List.mem_map.1 hm
  exact hx y hy
theorem let_nosl : ∀ n : Nat, n < 31 → bx (PC.letV ((n : Int) - 15)) ≠ 47 := by decide +kernel
theorem dig_nosl : ∀ e : Nat, e < 9 → bx (48 + ((e + 1 : Nat) : Int)) ≠ 47 := by decide +kernel
/-- the text of a rank read again: the state -/
structure RkP (row : List Int) (c e : Nat) (O : List UInt8) : Prop where
  i : RkI row c e O
  p : ∃ a, pcsL O = some a ∧ row.take c = a ++ List.replicate e 0
  no : ∀ d, d ∈ O → d ≠ 47
theorem byteP_e {e : Nat} (h1 : 1 ≤ e) (h2 : e ≤ 8) : byteP (bx (48 + (e : Int))) = some (List.replicate e 0) := by
  obtain ⟨b1, _⟩ := bx_dig e (by omega) h1
  rw [byteP_dig (by rw [b1]; omega), b1]
  congr 2
  omega
theorem pcs_dig {O : List UInt8} {a : List Int} {e : Nat} (h : pcsL O = some a) (he : e ≤ 8) : pcsL (O ++ digB e) = some (a ++ List.replicate e 0) := by
  rcases Nat.eq_zero_or_pos e with rfl | h1
  · show pcsL (O ++ []) = _
    rw [List.append_nil, h]; simp
  · rw [digB_pos h1, pcsL_snoc, h]
    show (byteP _).map (a ++ ·) = _
    rw [byteP_e h1 he]; rfl
theorem dig_mem {e : Nat} (he : e ≤ 8) : ∀ d, d ∈ digB e → d ≠ 47 := by
  intro d hd
  rcases Nat.eq_zero_or_pos e with rfl | h1
  · cases hd
  · rw [digB_pos h1] at hd
    simp only [List.mem_cons, List.not_mem_nil, or_false] at hd
    obtain ⟨k, rfl⟩ : ∃ k, e = k + 1 := ⟨e - 1, by omega⟩
    rw [hd]
    exact dig_nosl k (by omega)
theorem byteP_let {p : Int} (hp : p ≠ 0) (p0 : -15 ≤ p) (p1 : p ≤ 15) : byteP (bx (PC.letV p)) = some [p] := by
  have h9 := let_nodig (p + 15).toNat (by omega)
  rw [show (((p + 15).toNat : Nat) : Int) - 15 = p by omega] at h9
  have hl := let_bx p
  have hpar : PC.parV ((bx (PC.letV p)).toNat : Int) = p := by rw [← hl]; exact PC.parV_let p p0 p1 hp
  rw [byteP_yes (h9 hp) (by rw [hpar]; exact hp), hpar]
theorem RkP.zero (row : List Int) : RkP row 0 0 [] := ⟨RkI.zero row, ⟨[], rfl, rfl⟩, fun d h => by cases h⟩
theorem RkP.emp {row : List Int} {c e : Nat} {O : List UInt8} (h : RkP row c e O) (hx : row[c]? = some 0) (hc : c < 8) : RkP row (c + 1) (e + 1) O := by
  obtain ⟨a, h1, h2⟩ := h.p
  refine ⟨h.i.emp hx hc, ⟨a, h1, ?_⟩, h.no⟩
  rw [List.take_add_one, hx, h2, List.append_assoc, List.replicate_succ']
  rfl
theorem RkP.put {row : List Int} {c e : Nat} {O : List UInt8} (h : RkP row c e O) {p : Int} (hx : row[c]? = some p) (hp : p ≠ 0) (p0 : -15 ≤ p) (p1 : p ≤ 15) (hc : c < 8) : RkP row (c + 1) 0 (O ++ digB e ++ [bx (PC.letV p)]) := by
  obtain ⟨a, h1, h2⟩ := h.p
  have hle := h.i.le
  refine ⟨h.i.put hx hp p0 p1, ⟨a ++ List.replicate e 0 ++ [p], ?_, ?_⟩, fun d hd => ?_⟩
  · rw [pcsL_snoc, pcs_dig h1 (by omega)]
    show (byteP _).map (_ ++ ·) = _
    rw [byteP_let hp p0 p1]; rfl
  · rw [List.take_add_one, hx, h2]; simp
  · rcases List.mem_append.1 hd with hd | hd
    · rcases List.mem_append.1 hd with hd | hd
      · exact h.no d hd
      · exact dig_mem (by omega) d hd
    · simp only [List.mem_cons, List.not_mem_nil, or_false] at hd
      have h9 := let_nosl (p + 15).toNat (by omega)
      rw [show (((p + 15).toNat : Nat) : Int) - 15 = p by omega] at h9
      rw [hd]; exact h9
theorem rkP_all {row : List Int} (hr : row.length ≤ 8) (hall : ∀ p, p ∈ row → -15 ≤ p ∧ p ≤ 15) : ∀ c, c ≤ row.length → ∃ e O, RkP row c e O := by
  intro c
  induction c with
  | zero => intro _; exact ⟨0, [], RkP.zero row⟩
  | succ c ih =>
    intro hc
    obtain ⟨e, O, h⟩ := ih (by omega)
    have hx : row[c]? = some row[c] := List.getElem?_eq_getElem (by omega)
    obtain ⟨p0, p1⟩ := hall _ (List.getElem_mem (l := row) (n := c) (by omega))
    by_cases hp : row[c] = 0
    · rw [hp] at hx
      exact ⟨e + 1, O, h.emp hx (by omega)⟩
    · exact ⟨0, _, h.put hx hp p0 p1 (by omega)⟩
theorem rk_read {row : List Int} (hr : row.length ≤ 8) (hall : ∀ p, p ∈ row → -15 ≤ p ∧ p ≤ 15) : pcsL (rkL row) = some row ∧ ∀ d, d ∈ rkL row → d ≠ 47 := by
  obtain ⟨e, O, h⟩ := rkP_all hr hall row.length (Nat.le_refl _)
  obtain ⟨a, h1, h2⟩ := h.p
  have hle := h.i.le
  have hd := h.i.done (Nat.le_refl _)
  rw [List.take_length] at h2
  refine ⟨by rw [← hd, pcs_dig h1 (by omega), ← h2], fun d hm => ?_⟩
  rw [← hd] at hm
  rcases List.mem_append.1 hm with hm | hm
  · exact h.no d hm
  · exact dig_mem (by omega) d hm
theorem fold_app (b : List UInt8) : ∀ (x y : List Int), b.foldl accB (some (x ++ y)) = (b.foldl accB (some y)).map (x ++ ·) := by
  induction b with
  | nil => intro x y; rfl
  | cons c b ih =>
    intro x y
    rw [List.foldl_cons, List.foldl_cons]
    cases hb : byteP c with
    | none => rw [show accB (some (x ++ y)) c = none by simp [accB, hb], show accB (some y) c = none by simp [accB, hb], accB_none]; rfl
    | some d => rw [show accB (some (x ++ y)) c = some (x ++ (y ++ d)) by simp [accB, hb], show accB (some y) c = some (y ++ d) by simp [accB, hb], ih]
theorem pcsL_app {a b : List UInt8} {x y : List Int} (ha : pcsL a = some x) (hb : pcsL b = some y) : pcsL (a ++ b) = some (x ++ y) := by
  unfold pcsL at *
  rw [List.foldl_append, ha]
  have h := fold_app b x []
  rw [List.append_nil] at h
  rw [h, hb]; rfl
/-- what Text writes, Parse reads -/
theorem parB_boardT {f r : Nat} {l : List Int} (hv : bdB (f : Int) (r : Int) l = true) : parB (boardT f r l) = some (f, r, l) := by
  obtain ⟨hs, hlen, hall⟩ := bdB_out hv
  obtain ⟨f0, f1, r0, r1⟩ := szB_out hs
  have hlr : l.length = r * f := by
    have h9 : ((l.length : Nat) : Int) = ((r * f : Nat) : Int) := by rw [hlen, Int.natCast_mul, Int.mul_comm]
    exact Int.ofNat_inj.1 h9
  have hrow : ∀ x, x < r → pcsL (rkL (rowOf f x l)) = some (rowOf f x l) ∧ ∀ d, d ∈ rkL (rowOf f x l) → d ≠ 47 := fun x hx =>
    rk_read (by rw [rowOf_len hlr hx]; omega) fun p hp => hall p (rowOf_mem hp)
  have hrk : ranksB (boardT f r l) = rsT f l (List.range r) := by
    unfold boardT
    rw [ranks_join, List.reverse_reverse]
    · intro e
      have := congrArg List.length e
      rw [List.length_reverse] at this
      unfold rsT at this
      rw [List.length_map, List.length_range] at this
      simp at this
      omega
    · intro x hx
      rw [List.mem_reverse] at hx
      unfold rsT at hx
      obtain ⟨k, hk, rfl⟩ := List.mem_map.1 hx
      exact (hrow k (List.mem_range.1 hk)).2
  have hrl : (rsT f l (List.range r)).length = r := by unfold rsT; rw [List.length_map, List.length_range]
  have hby : ∀ k, k ≤ r → pcsL (bytesK (rsT f l (List.range r)) k) = some (l.take (k * f)) := by
    intro k
    induction k with
    | zero => intro _; rw [Nat.zero_mul, List.take_zero]; rfl
    | succ k ih =>
      intro hk
      have hg : (rsT f l (List.range r))[k]? = some (rkT (rowOf f k l)) := by
        unfold rsT
        rw [List.getElem?_map, List.getElem?_range (by omega)]; rfl
      rw [bytesK_succ hg]
      have h1 := pcsL_app (ih (by omega)) (hrow k (by omega)).1
      rw [Nat.succ_mul, List.take_add]
      exact h1
  have hP : pcsL (bytesK (ranksB (boardT f r l)) (ranksB (boardT f r l)).length) = some l := by
    rw [hrk, hrl, hby r (Nat.le_refl _), List.take_of_length_le (by omega)]
  rw [parB_some (by rw [hrk, hrl]; omega) hP, hrk, hrl, hlr, Nat.mul_div_cancel_left _ (by omega), hv]
  simp
theorem boardT_size {f r : Nat} {l : List Int} (hv : bdB (f : Int) (r : Int) l = true) : (boardT f r l).size ≤ 1000 := by
  obtain ⟨hs, hlen, hall⟩ := bdB_out hv
  obtain ⟨f0, f1, r0, r1⟩ := szB_out hs
  rw [← tD_all, bsL_size]
  have h : ∀ j, (tD f r l j).length ≤ 9 * j := by
    intro j
    induction j with
    | zero => exact Nat.le_refl _
    | succ j ih =>
      show ((if j = 0 then [] else tD f r l j ++ [47]) ++ rkL (rowOf f (r - 1 - j) l)).length ≤ _
      have h1 := rkL_len (rowOf f (r - 1 - j) l)
      have h2 : (rowOf f (r - 1 - j) l).length ≤ f := by unfold rowOf; exact List.length_take_le _ _
      rw [List.length_append]
      split
      · rw [List.length_nil]; omega
      · rw [List.length_append, List.length_cons, List.length_nil]; omega
  have := h r
  omega
end Go.Proofs.YtjglpphfkkabnaaDoor
