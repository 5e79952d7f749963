/- Layer 3: what the reference's Parse reads, and that it is what Parse reads. Printed by gen_bx.py. -/
import Derived.Test.YtjglpphfkkabnaaDoorBu
namespace Go.Proofs.YtjglpphfkkabnaaDoor
open Go.RowKit
set_option linter.unusedSimpArgs false
set_option linter.unusedVariables false

/-- and back: a text is its ranks, joined -/
theorem join_wls : ∀ l : List UInt8, Lib.join (wls l) [47] = l
  | [] => by simp [wls, Lib.join, List.intercalate]
  | c :: t => by
    have ih := join_wls t
    obtain ⟨h, r, e⟩ := wls_cons t
    rw [e] at ih
    by_cases hc : c = 47
    · subst hc
      have e2 : Lib.join ([] :: h :: r) [47] = 47 :: Lib.join (h :: r) [47] := by simp [Lib.join, List.intercalate]
      simp only [wls, if_true, e]
      rw [e2, ih]
    · simp only [wls, hc, if_false, e, List.modifyHead_cons]
      cases r with
      | nil => simpa [Lib.join, List.intercalate] using ih
      | cons y r =>
        have e3 : ∀ z : List UInt8, Lib.join (z :: y :: r) [47] = z ++ 47 :: Lib.join (y :: r) [47] := fun z => by simp [Lib.join, List.intercalate]
        rw [e3] at ih ⊢
        rw [List.cons_append, ih]
/-- one more byte of a rank: the row, and whether the last byte was a digit -/
def rdB (st : Option (List Int × Bool)) (c : UInt8) : Option (List Int × Bool) := match st with
  | none => none
  | some (row, dg) => if 49 ≤ c.toNat ∧ c.toNat ≤ 56 then (if dg then none else some (row ++ List.replicate (c.toNat - 48) 0, true)) else if PC.parV c.toNat = 0 then none else some (row ++ [PC.parV c.toNat], false)
def rdL (x : List UInt8) : Option (List Int × Bool) := x.foldl rdB (some ([], false))
theorem rdL_snoc (x : List UInt8) (c : UInt8) : rdL (x ++ [c]) = rdB (rdL x) c := by unfold rdL; rw [List.foldl_append]; rfl
theorem rdL_none {x : List UInt8} (h : rdL x = none) (t : List UInt8) : rdL (x ++ t) = none := by
  unfold rdL at *
  rw [List.foldl_append, h]
  induction t with
  | nil => rfl
  | cons c t ih => exact ih
theorem rdB_dig {row : List Int} {c : UInt8} (h : 49 ≤ c.toNat ∧ c.toNat ≤ 56) : rdB (some (row, false)) c = some (row ++ List.replicate (c.toNat - 48) 0, true) := by unfold rdB; simp only [if_pos h]; rfl
theorem rdB_dig2 {row : List Int} {c : UInt8} (h : 49 ≤ c.toNat ∧ c.toNat ≤ 56) : rdB (some (row, true)) c = none := by unfold rdB; simp only [if_pos h]; rfl
theorem rdB_bad {row : List Int} {dg : Bool} {c : UInt8} (h : ¬ (49 ≤ c.toNat ∧ c.toNat ≤ 56)) (h2 : PC.parV c.toNat = 0) : rdB (some (row, dg)) c = none := by unfold rdB; simp only [if_neg h, if_pos h2]
theorem rdB_let {row : List Int} {dg : Bool} {c : UInt8} (h : ¬ (49 ≤ c.toNat ∧ c.toNat ≤ 56)) (h2 : PC.parV c.toNat ≠ 0) : rdB (some (row, dg)) c = some (row ++ [PC.parV c.toNat], false) := by unfold rdB; simp only [if_neg h, if_neg h2]
/-- written, then read by the reference: the state -/
structure RkR (row : List Int) (c e : Nat) (O : List UInt8) : Prop where
  i : RkI row c e O
  p : ∃ a, rdL O = some (a, false) ∧ row.take c = a ++ List.replicate e 0
theorem rd_dig {O : List UInt8} {a : List Int} {e : Nat} (h : rdL O = some (a, false)) (he : e ≤ 8) : ∃ dg, rdL (O ++ digB e) = some (a ++ List.replicate e 0, dg) := by
  rcases Nat.eq_zero_or_pos e with rfl | h1
  · exact ⟨false, by show rdL (O ++ []) = _; rw [List.append_nil, h]; simp⟩
  · obtain ⟨b1, _⟩ := bx_dig e (by omega) h1
    refine ⟨true, ?_⟩
    rw [digB_pos h1, rdL_snoc, h, rdB_dig (by rw [b1]; omega), b1]
    congr 4
    omega
theorem RkR.zero (row : List Int) : RkR row 0 0 [] := ⟨RkI.zero row, ⟨[], rfl, rfl⟩⟩
theorem RkR.emp {row : List Int} {c e : Nat} {O : List UInt8} (h : RkR row c e O) (hx : row[c]? = some 0) (hc : c < 8) : RkR row (c + 1) (e + 1) O := by
  obtain ⟨a, h1, h2⟩ := h.p
  refine ⟨h.i.emp hx hc, ⟨a, h1, ?_⟩⟩
  rw [List.take_add_one, hx, h2, List.append_assoc, List.replicate_succ']
  rfl
theorem par_let {p : Int} (hp : p ≠ 0) (p0 : -15 ≤ p) (p1 : p ≤ 15) : ¬ (49 ≤ (bx (PC.letV p)).toNat ∧ (bx (PC.letV p)).toNat ≤ 56) ∧ PC.parV ((bx (PC.letV p)).toNat : Int) = p := by
  have h9 := let_nodig (p + 15).toNat (by omega)
  rw [show (((p + 15).toNat : Nat) : Int) - 15 = p by omega] at h9
  have hl := let_bx p
  exact ⟨h9 hp, by rw [← hl]; exact PC.parV_let p p0 p1 hp⟩
theorem RkR.put {row : List Int} {c e : Nat} {O : List UInt8} (h : RkR row c e O) {p : Int} (hx : row[c]? = some p) (hp : p ≠ 0) (p0 : -15 ≤ p) (p1 : p ≤ 15) (hc : c < 8) : RkR row (c + 1) 0 (O ++ digB e ++ [bx (PC.letV p)]) := by
  obtain ⟨a, h1, h2⟩ := h.p
  have hle := h.i.le
  obtain ⟨dg, hd⟩ := rd_dig h1 (show e ≤ 8 by omega)
  obtain ⟨l1, l2⟩ := par_let hp p0 p1
  refine ⟨h.i.put hx hp p0 p1, ⟨a ++ List.replicate e 0 ++ [p], ?_, ?_⟩⟩
  · rw [rdL_snoc, hd, rdB_let l1 (by rw [l2]; exact hp), l2]
  · rw [List.take_add_one, hx, h2]; simp
theorem rkR_all {row : List Int} (hr : row.length ≤ 8) (hall : ∀ p, p ∈ row → -15 ≤ p ∧ p ≤ 15) : ∀ c, c ≤ row.length → ∃ e O, RkR row c e O := by
  intro c
  induction c with
  | zero => intro _; exact ⟨0, [], RkR.zero row⟩
  | succ c ih =>
    intro hc
    obtain ⟨e, O, h⟩ := ih (by omega)
    have hx : row[c]? = some row[c] := List.getElem?_eq_getElem (by omega)
    obtain ⟨p0, p1⟩ := hall _ (List.getElem_mem (l := row) (n := c) (by omega))
    by_cases hp : row[c] = 0
    · rw [hp] at hx
      exact ⟨e + 1, O, h.emp hx (by omega)⟩
    · exact ⟨0, _, h.put hx hp p0 p1 (by omega)⟩
theorem rd_of_rk {row : List Int} (hr : row.length ≤ 8) (hall : ∀ p, p ∈ row → -15 ≤ p ∧ p ≤ 15) : ∃ dg, rdL (rkL row) = some (row, dg) := by
  obtain ⟨e, O, h⟩ := rkR_all hr hall row.length (Nat.le_refl _)
  obtain ⟨a, h1, h2⟩ := h.p
  have hle := h.i.le
  have hd := h.i.done (Nat.le_refl _)
  rw [List.take_length] at h2
  obtain ⟨dg, h3⟩ := rd_dig h1 (show e ≤ 8 by omega)
  exact ⟨dg, by rw [← hd, h3, ← h2]⟩
theorem RkI.more {row : List Int} {c e : Nat} {O : List UInt8} (h : RkI row c e O) (hc : c ≤ row.length) (t : List Int) : RkI (row ++ t) c e O := ⟨by rw [List.take_append_of_le_length hc]; exact h.eq, h.le, h.last⟩
theorem RkI.emps {row : List Int} {n : Nat} {O : List UInt8} {m : Nat} (h : RkI row n 0 O) (hn : row.length = n) (hm : n + m ≤ 8) : ∀ j, j ≤ m → RkI (row ++ List.replicate m 0) (n + j) j O := by
  intro j
  induction j with
  | zero => intro _; exact h.more (by omega) _
  | succ j ih =>
    intro hj
    refine (ih (by omega)).emp ?_ (by omega)
    rw [List.getElem?_append_right (by omega), List.getElem?_replicate, if_pos (by omega)]
theorem let_par {c : UInt8} (h : PC.parV c.toNat ≠ 0) : -15 ≤ PC.parV c.toNat ∧ PC.parV c.toNat ≤ 15 ∧ bx (PC.letV (PC.parV c.toNat)) = c := by
  have hq : ∃ q : Int, -15 ≤ q ∧ q < 16 ∧ q ≠ 0 ∧ PC.letV q = c.toNat := by
    refine Classical.byContradiction fun hn => h (PC.parV_no _ fun q h1 h2 h3 h4 => hn ⟨q, h1, h2, h3, h4⟩)
  obtain ⟨q, h1, h2, h3, h4⟩ := hq
  have h5 := PC.parV_let q h1 (by omega) h3
  rw [h4] at h5
  rw [h5]
  refine ⟨h1, by omega, ?_⟩
  have h6 := let_bx q
  rw [h4] at h6
  apply UInt8.toNat_inj.1
  rw [h4]
  omega
/-- read by the reference, then written: the same bytes -/
theorem rk_of_rd (x : List UInt8) : ∀ (n : Nat), n ≤ x.length → ∀ (row : List Int) (dg : Bool), rdL (x.take n) = some (row, dg) → row.length ≤ 8 → (∀ p, p ∈ row → -15 ≤ p ∧ p ≤ 15) ∧ ∃ O e, x.take n = O ++ digB e ∧ RkI row row.length e O ∧ (dg = false → e = 0) := by
  intro n
  induction n with
  | zero =>
    intro _ row dg h _
    rw [List.take_zero] at h
    obtain ⟨rfl, rfl⟩ := Prod.mk.inj (Option.some.inj h)
    exact ⟨(fun p hp => absurd hp (by simp)), [], 0, rfl, RkI.zero _, fun _ => rfl⟩
  | succ n ih =>
    intro hn row' dg' h h8
    have hx : x.take (n + 1) = x.take n ++ [x[n]] := by rw [List.take_succ_eq_append_getElem]
    rw [hx, rdL_snoc] at h
    rw [hx]
    generalize x[n] = c at *
    cases hr : rdL (x.take n) with
    | none => rw [hr] at h; cases h
    | some st =>
      obtain ⟨row, dg⟩ := st
      rw [hr] at h
      by_cases hd : 49 ≤ c.toNat ∧ c.toNat ≤ 56
      · cases dg with
        | true => rw [rdB_dig2 hd] at h; cases h
        | false =>
          rw [rdB_dig hd] at h
          obtain ⟨rfl, rfl⟩ := Prod.mk.inj (Option.some.inj h)
          rw [List.length_append, List.length_replicate] at h8
          obtain ⟨hal, O, e, h1, h2, h3⟩ := ih (by omega) row false hr (by omega)
          obtain rfl := h3 rfl
          obtain ⟨m, hm⟩ : ∃ m, c.toNat - 48 = m := ⟨_, rfl⟩
          rw [hm] at h8 ⊢
          refine ⟨fun p hp => ?_, O, m, ?_, ?_, fun h => by cases h⟩
          · rcases List.mem_append.1 hp with hp | hp
            · exact hal p hp
            · have := (List.mem_replicate.1 hp).2; omega
          · rw [h1, digB_pos (e := m) (by omega)]
            show O ++ [] ++ [c] = _
            rw [List.append_nil]
            congr 2
            obtain ⟨b1, _⟩ := bx_dig m (by omega) (by omega)
            apply UInt8.toNat_inj.1
            omega
          · have h4 := h2.emps rfl h8 m (Nat.le_refl _)
            rw [List.length_append, List.length_replicate]
            exact h4
      · by_cases hp0 : PC.parV c.toNat = 0
        · rw [rdB_bad hd hp0] at h; cases h
        · rw [rdB_let hd hp0] at h
          obtain ⟨rfl, rfl⟩ := Prod.mk.inj (Option.some.inj h)
          rw [List.length_append, List.length_cons, List.length_nil] at h8
          obtain ⟨hal, O, e, h1, h2, h3⟩ := ih (by omega) row dg hr (by omega)
          obtain ⟨q0, q1, q2⟩ := let_par hp0
          refine ⟨fun p hp => ?_, O ++ digB e ++ [c], 0, ?_, ?_, fun _ => rfl⟩
          · rcases List.mem_append.1 hp with hp | hp
            · exact hal p hp
            · simp only [List.mem_cons, List.not_mem_nil, or_false] at hp
              rw [hp]; exact ⟨q0, q1⟩
          · rw [h1]; show _ = _ ++ []; rw [List.append_nil]
          · have h4 := (h2.more (Nat.le_refl _) [PC.parV c.toNat]).put (p := PC.parV c.toNat) (by simp) hp0 q0 q1
            rw [q2] at h4
            rw [List.length_append]
            exact h4
theorem rk_rd {x : List UInt8} {row : List Int} {dg : Bool} (h : rdL x = some (row, dg)) (h8 : row.length ≤ 8) : rkL row = x ∧ ∀ p, p ∈ row → -15 ≤ p ∧ p ≤ 15 := by
  have h2 := rk_of_rd x x.length (Nat.le_refl _) row dg (by rw [List.take_length]; exact h) h8
  rw [List.take_length] at h2
  obtain ⟨hal, O, e, h3, h4, _⟩ := h2
  refine ⟨?_, hal⟩
  have h5 := h4.eq
  rw [List.take_length] at h5
  rw [h5, h3]
/-- what the reference's Parse keeps of the ranks, from the last to the first -/
def rfStep (st : Option (Nat × List Int)) (x : ByteArray) : Option (Nat × List Int) := match st with
  | none => none
  | some (f, P) => match rdL x.data.toList with
    | none => none
    | some (row, _) => if row.length < 3 ∨ 8 < row.length then none else if 0 < P.length ∧ row.length ≠ f then none else some (row.length, P ++ row)
def rfL (rs : List ByteArray) : Option (Nat × List Int) := rs.foldl rfStep (some (0, []))
theorem rfL_snoc {rs : List ByteArray} {k : Nat} {x : ByteArray} (h : rs[k]? = some x) : rfL (rs.take (k + 1)) = rfStep (rfL (rs.take k)) x := by
  unfold rfL
  rw [List.take_add_one, h, List.foldl_append]; rfl
theorem rfL_none {rs : List ByteArray} {k : Nat} (h : rfL (rs.take k) = none) : rfL rs = none := by
  have e : rs = rs.take k ++ rs.drop k := (List.take_append_drop k rs).symm
  rw [e]
  unfold rfL at *
  rw [List.foldl_append, h]
  generalize rs.drop k = t
  induction t with
  | nil => rfl
  | cons c t ih => exact ih
/-- the board that the reference reads -/
def refP (s : ByteArray) : Option (Nat × Nat × List Int) :=
  if (ranksB s).length < 3 ∨ 8 < (ranksB s).length then none else (rfL (ranksB s)).map fun st => (st.1, (ranksB s).length, st.2)
theorem rfStep_yes {f : Nat} {P row : List Int} {dg : Bool} {x : ByteArray} (h : rdL x.data.toList = some (row, dg)) (h3 : ¬ (row.length < 3 ∨ 8 < row.length)) (hf : ¬ (0 < P.length ∧ row.length ≠ f)) : rfStep (some (f, P)) x = some (row.length, P ++ row) := by
  unfold rfStep; simp only [h, if_neg h3, if_neg hf]
theorem rfStep_out {f f' : Nat} {P P' : List Int} {x : ByteArray} (h : rfStep (some (f, P)) x = some (f', P')) : ∃ row dg, rdL x.data.toList = some (row, dg) ∧ 3 ≤ row.length ∧ row.length ≤ 8 ∧ (0 < P.length → row.length = f) ∧ f' = row.length ∧ P' = P ++ row := by
  unfold rfStep at h
  cases hr : rdL x.data.toList with
  | none => simp only [hr] at h; cases h
  | some st =>
    obtain ⟨row, dg⟩ := st
    simp only [hr] at h
    by_cases h3 : row.length < 3 ∨ 8 < row.length
    · rw [if_pos h3] at h; cases h
    · rw [if_neg h3] at h
      by_cases hf : 0 < P.length ∧ row.length ≠ f
      · rw [if_pos hf] at h; cases h
      · rw [if_neg hf] at h
        obtain ⟨rfl, rfl⟩ := Prod.mk.inj (Option.some.inj h)
        exact ⟨row, dg, rfl, by omega, by omega, fun h0 => Classical.byContradiction fun hn => hf ⟨h0, hn⟩, rfl, rfl⟩
theorem ranks_boardT {f r : Nat} {l : List Int} (hv : bdB (f : Int) (r : Int) l = true) : ranksB (boardT f r l) = rsT f l (List.range r) := by
  obtain ⟨hs, hlen, hall⟩ := bdB_out hv
  obtain ⟨f0, f1, r0, r1⟩ := szB_out hs
  have hlr : l.length = r * f := by
    have h9 : ((l.length : Nat) : Int) = ((r * f : Nat) : Int) := by rw [hlen, Int.natCast_mul, Int.mul_comm]
    exact Int.ofNat_inj.1 h9
  unfold boardT
  rw [ranks_join, List.reverse_reverse]
  · intro e
    have := congrArg List.length e
    rw [List.length_reverse] at this
    unfold rsT at this
    rw [List.length_map, List.length_range] at this
    simp at this
    omega
  · intro x hx
    rw [List.mem_reverse] at hx
    unfold rsT at hx
    obtain ⟨k, hk, rfl⟩ := List.mem_map.1 hx
    have hk2 := List.mem_range.1 hk
    exact (rk_read (by rw [rowOf_len hlr hk2]; omega) fun p hp => hall p (rowOf_mem hp)).2
theorem rsT_get {f r : Nat} {l : List Int} {k : Nat} (hk : k < r) : (rsT f l (List.range r))[k]? = some (rkT (rowOf f k l)) := by
  unfold rsT
  rw [List.getElem?_map, List.getElem?_range hk]; rfl
/-- a valid board's text is read by the reference -/
theorem refP_boardT {f r : Nat} {l : List Int} (hv : bdB (f : Int) (r : Int) l = true) : refP (boardT f r l) = some (f, r, l) := by
  have hrk := ranks_boardT hv
  obtain ⟨hs, hlen, hall⟩ := bdB_out hv
  obtain ⟨f0, f1, r0, r1⟩ := szB_out hs
  have hlr : l.length = r * f := by
    have h9 : ((l.length : Nat) : Int) = ((r * f : Nat) : Int) := by rw [hlen, Int.natCast_mul, Int.mul_comm]
    exact Int.ofNat_inj.1 h9
  have hrl : (rsT f l (List.range r)).length = r := by unfold rsT; rw [List.length_map, List.length_range]
  have hby : ∀ k, k ≤ r → rfL ((rsT f l (List.range r)).take k) = some (if k = 0 then 0 else f, l.take (k * f)) := by
    intro k
    induction k with
    | zero => intro _; rw [Nat.zero_mul, List.take_zero]; rfl
    | succ k ih =>
      intro hk
      have hrow := rowOf_len hlr (show k < r by omega)
      obtain ⟨dg, hd⟩ := rd_of_rk (row := rowOf f k l) (by rw [hrow]; omega) fun p hp => hall p (rowOf_mem hp)
      rw [rfL_snoc (rsT_get (by omega)), ih (by omega), rfStep_yes (row := rowOf f k l) (dg := dg) hd (by rw [hrow]; omega) (by
        rw [hrow]
        rintro ⟨h1, h2⟩
        by_cases hk0 : k = 0
        · subst hk0
          rw [Nat.zero_mul, List.take_zero] at h1
          simp at h1
        · rw [if_neg hk0] at h2; exact h2 rfl), hrow, if_neg (Nat.succ_ne_zero k), Nat.succ_mul, List.take_add]
      rfl
  unfold refP
  rw [hrk, hrl, if_neg (by omega)]
  have h9 := hby r (Nat.le_refl _)
  rw [List.take_of_length_le (by rw [hrl]; exact Nat.le_refl _), if_neg (by omega), List.take_of_length_le (by omega)] at h9
  rw [h9]; rfl
theorem join_ranks (s : ByteArray) : joinS (ranksB s).reverse = s := by
  apply ba_eq
  unfold ranksB
  rw [List.reverse_reverse]
  show Lib.join ((Lib.splitB slash 0 (Lib.countB s slash) s).map (·.data.toList)) [47] = _
  rw [Lib.splitB_data]
  have h : Lib.splitK slash.data.toList 0 (Lib.countB s slash) s.data.toList = wls s.data.toList := splitK_all s.data.toList
  rw [h]
  exact join_wls _
/-- what the reference reads of the first ranks -/
theorem rfL_rows {rs : List ByteArray} : ∀ (k f : Nat) (P : List Int), k ≤ rs.length → rfL (rs.take k) = some (f, P) → P.length = k * f ∧ (0 < k → 3 ≤ f ∧ f ≤ 8) ∧ (∀ p, p ∈ P → -15 ≤ p ∧ p ≤ 15) ∧ ∀ i, i < k → rs[i]? = some (rkT (rowOf f i P)) := by
  intro k
  induction k with
  | zero =>
    intro f P _ h
    rw [List.take_zero] at h
    obtain ⟨rfl, rfl⟩ := Prod.mk.inj (Option.some.inj (show some (0, []) = some (f, P) from h))
    exact ⟨by simp, by omega, (fun p hp => absurd hp (by simp)), fun i hi => absurd hi (Nat.not_lt_zero _)⟩
  | succ k ih =>
    intro f' P' hk h
    have hx : rs[k]? = some rs[k] := List.getElem?_eq_getElem (by omega)
    rw [rfL_snoc hx] at h
    cases hr : rfL (rs.take k) with
    | none => rw [hr] at h; cases h
    | some st =>
      obtain ⟨f, P⟩ := st
      rw [hr] at h
      obtain ⟨row, dg, h1, h2, h3, h4, rfl, rfl⟩ := rfStep_out h
      obtain ⟨i1, i2, i3, i4⟩ := ih f P (by omega) hr
      obtain ⟨j1, j2⟩ := rk_rd h1 h3
      have hrow : k = 0 ∨ row.length = f := by
        by_cases hk0 : k = 0
        · exact .inl hk0
        · have h5 := i2 (by omega)
          exact .inr (h4 (by rw [i1]; exact Nat.mul_pos (by omega) (by omega)))
      have hP : P.length = k * row.length := by
        rcases hrow with rfl | e
        · rw [i1]; simp
        · rw [i1, e]
      refine ⟨by rw [List.length_append, hP, Nat.succ_mul], fun _ => ⟨h2, h3⟩, fun p hp => ?_, fun i hi => ?_⟩
      · rcases List.mem_append.1 hp with hp | hp
        · exact i3 p hp
        · exact j2 p hp
      · by_cases hik : i = k
        · subst hik
          rw [hx]
          congr 1
          apply ba_eq
          unfold rowOf
          rw [List.drop_append_of_le_length (by omega), List.drop_of_length_le (by omega), List.nil_append, List.take_length]
          exact j1.symm
        · have hf : row.length = f := by
            rcases hrow with h0 | e
            · omega
            · exact e
          rw [i4 i (by omega), hf]
          congr 2
          unfold rowOf
          have h6 : (i + 1) * f ≤ P.length := by rw [i1]; exact Nat.mul_le_mul_right _ (by omega)
          rw [Nat.succ_mul] at h6
          rw [List.drop_append_of_le_length (by omega), List.take_append_of_le_length (by rw [List.length_drop]; omega)]
/-- the reference's Parse and the program's read the same boards -/
theorem refP_parB (s : ByteArray) : refP s = parB s := by
  cases hp : parB s with
  | some st =>
    obtain ⟨f, r, P⟩ := st
    have h : bdB (f : Int) (r : Int) P = true ∧ boardT f r P = s := by
      unfold parB at hp
      simp only at hp
      split at hp
      · cases hp
      · split at hp
        · cases hp
        · split at hp
          · rename_i hc
            simp only [Option.some.injEq, Prod.mk.injEq] at hp
            obtain ⟨rfl, rfl, rfl⟩ := hp
            rw [Bool.and_eq_true, decide_eq_true_eq] at hc
            exact hc
          · cases hp
    rw [← h.2]
    exact refP_boardT h.1
  | none =>
    cases hr : refP s with
    | none => rfl
    | some st =>
      exfalso
      unfold refP at hr
      split at hr
      · cases hr
      · rename_i h38
        cases hf : rfL (ranksB s) with
        | none => rw [hf] at hr; cases hr
        | some st2 =>
          obtain ⟨f, P⟩ := st2
          obtain ⟨r, hrl⟩ : ∃ r, (ranksB s).length = r := ⟨_, rfl⟩
          rw [hrl] at h38
          obtain ⟨i1, i2, i3, i4⟩ := rfL_rows (rs := ranksB s) r f P (by omega) (by rw [← hrl, List.take_length]; exact hf)
          obtain ⟨f3, f8⟩ := i2 (by omega)
          have hv : bdB (f : Int) (r : Int) P = true := by
            have hs : szB (f : Int) (r : Int) = true := decide_eq_true (by omega)
            rw [bdB_in hs (by rw [i1, Int.natCast_mul, Int.mul_comm]), List.all_eq_true]
            intro p hp
            exact decide_eq_true (i3 p hp)
          have hrs : ranksB s = rsT f P (List.range r) := by
            apply List.ext_getElem?
            intro i
            by_cases hi : i < r
            · rw [i4 i hi, rsT_get hi]
            · rw [List.getElem?_eq_none (by omega), List.getElem?_eq_none (by unfold rsT; rw [List.length_map, List.length_range]; omega)]
          have hb : boardT f r P = s := by
            have h7 := join_ranks s
            rw [hrs] at h7
            exact h7
          rw [← hb, parB_boardT hv] at hp
          cases hp
end Go.Proofs.YtjglpphfkkabnaaDoor
