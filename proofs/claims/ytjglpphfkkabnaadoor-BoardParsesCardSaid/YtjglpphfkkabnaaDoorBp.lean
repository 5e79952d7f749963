/- Layer 3: the squares of a piece, of a side, the material of a side: the reference's. Printed by gen_bp.py. -/
import Derived.Test.YtjglpphfkkabnaaDoorBo
namespace Go.Proofs.YtjglpphfkkabnaaDoor
open Go.RowKit
set_option linter.unusedSimpArgs false
set_option linter.unusedVariables false

/-- the squares below k whose piece is chosen, in order -/
def ixL (P : Int → Bool) (l : List Int) : Nat → List Int
  | 0 => []
  | k + 1 => if P (l.getD k 0) then ixL P l k ++ [(k : Int)] else ixL P l k
theorem ixL_yes {P : Int → Bool} {l : List Int} {k : Nat} {x : Int} (hx : l[k]? = some x) (h : P x = true) : ixL P l (k + 1) = ixL P l k ++ [(k : Int)] := by
  have e : l.getD k 0 = x := by rw [List.getD, hx]; rfl
  show (if P (l.getD k 0) then _ else _) = _
  rw [e, h]; rfl
theorem ixL_no {P : Int → Bool} {l : List Int} {k : Nat} {x : Int} (hx : l[k]? = some x) (h : P x = false) : ixL P l (k + 1) = ixL P l k := by
  have e : l.getD k 0 = x := by rw [List.getD, hx]; rfl
  show (if P (l.getD k 0) then _ else _) = _
  rw [e, h]; rfl
theorem ixL_len (P : Int → Bool) (l : List Int) : ∀ k, (ixL P l k).length ≤ k := by
  intro k
  induction k with
  | zero => simp [ixL]
  | succ k ih =>
    unfold ixL
    split
    · rw [List.length_append, List.length_cons, List.length_nil]; omega
    · omega
theorem ixL_mem (P : Int → Bool) (l : List Int) : ∀ k x, x ∈ ixL P l k → 0 ≤ x ∧ x < k := by
  intro k
  induction k with
  | zero => intro x h; simp [ixL] at h
  | succ k ih =>
    intro x h
    unfold ixL at h
    split at h
    · rcases List.mem_append.1 h with h | h
      · have := ih x h; omega
      · simp only [List.mem_cons, List.not_mem_nil, or_false] at h; omega
    · have := ih x h; omega
theorem ofL_all (X : List Int) : ofL X X.length = X.foldl (fun acc a => acc ||| 1 <<< a.toNat) 0 := by unfold ofL; rw [List.take_length]
theorem ofL_ixL (P : Int → Bool) (l : List Int) : ∀ k, ofL (ixL P l k) (ixL P l k).length = wM P l k := by
  intro k
  rw [ofL_all]
  induction k with
  | zero => rfl
  | succ k ih =>
    unfold ixL wM
    split
    · rw [List.foldl_append, ih]; simp [Nat.one_shiftLeft]
    · exact ih
/-- the values of the pieces on listed squares -/
def vs (l X : List Int) : Nat → Int
  | 0 => 0
  | j + 1 => vs l X j + PC.valV (l.getD (X.getD j 0).toNat 0)
theorem vs_front (l X : List Int) (i : Int) : ∀ j, j ≤ X.length → vs l (X ++ [i]) j = vs l X j := by
  intro j
  induction j with
  | zero => intro _; rfl
  | succ j ih =>
    intro h
    unfold vs
    rw [ih (by omega), show (X ++ [i]).getD j 0 = X.getD j 0 by rw [List.getD, List.getD, List.getElem?_append_left (by omega)]]
theorem vs_ixL (P : Int → Bool) (l : List Int) : ∀ k, vs l (ixL P l k) (ixL P l k).length = sM P l k := by
  intro k
  induction k with
  | zero => rfl
  | succ k ih =>
    unfold ixL sM
    split
    · rw [List.length_append, List.length_cons, List.length_nil]
      show vs l (ixL P l k ++ [(k : Int)]) (ixL P l k).length + PC.valV (l.getD ((ixL P l k ++ [(k : Int)]).getD (ixL P l k).length 0).toNat 0) = _
      rw [vs_front _ _ _ _ (Nat.le_refl _), ih]
      simp
    · rw [ih]; simp
theorem vs_bd {l X : List Int} (hall : ∀ p, p ∈ l → -15 ≤ p ∧ p ≤ 15) : ∀ j, 0 ≤ vs l X j ∧ vs l X j ≤ 9 * j := by
  intro j
  induction j with
  | zero => simp [vs]
  | succ j ih =>
    unfold vs
    have hv : 0 ≤ PC.valV (l.getD (X.getD j 0).toNat 0) ∧ PC.valV (l.getD (X.getD j 0).toNat 0) ≤ 9 := by
      cases h : l[(X.getD j 0).toNat]? with
      | none => rw [List.getD, h]; decide
      | some x => rw [List.getD, h]; exact val_bd (hall x (List.mem_of_getElem? h)).1 (hall x (List.mem_of_getElem? h)).2
    omega
theorem wM_congr {P Q : Int → Bool} (h : ∀ p, P p = Q p) (l : List Int) (k : Nat) : wM P l k = wM Q l k := by rw [show P = Q from funext h]
theorem sM_congr {P Q : Int → Bool} (h : ∀ p, P p = Q p) (l : List Int) (k : Nat) : sM P l k = sM Q l k := by rw [show P = Q from funext h]
/-- the pieces at most 0: those below 0 have all of their value -/
theorem sM_black (l : List Int) : ∀ k, sM (fun p => p.sign == -1) l k = sM nP l k := by
  intro k
  induction k with
  | zero => rfl
  | succ k ih =>
    unfold sM
    rw [ih]
    congr 1
    generalize l.getD k 0 = x
    unfold nP
    rcases Int.lt_trichotomy x 0 with h | h | h
    · rw [Int.sign_eq_neg_one_of_neg h, decide_eq_false (by omega)]; rfl
    · subst h; decide
    · rw [Int.sign_eq_one_of_pos h, decide_eq_true h]; rfl
theorem sgn_w (p : Int) : (p.sign == 1) = decide (0 < p) := by
  rcases Int.lt_trichotomy p 0 with h | h | h
  · rw [Int.sign_eq_neg_one_of_neg h, decide_eq_false (by omega)]; rfl
  · subst h; rfl
  · rw [Int.sign_eq_one_of_pos h, decide_eq_true h]; rfl
theorem sgn_b (p : Int) : (p.sign == -1) = decide (p < 0) := by
  rcases Int.lt_trichotomy p 0 with h | h | h
  · rw [Int.sign_eq_neg_one_of_neg h, decide_eq_true h]; rfl
  · subst h; rfl
  · rw [Int.sign_eq_one_of_pos h, decide_eq_false (by omega)]; rfl
/-- a list of numbers that the call has made -/
def NewI (X : List Int) (w : World) (e : Ending) (w' : World) : Prop := ∃ (A : Option Addr) (c : Nat), e = .returned (.slice A X.length c) ∧ O1 iEnc 1 w.heap.size 3 w w' A c X
set_option maxRecDepth 100000 in
set_option maxHeartbeats 1000000 in
theorem rlist (f r : Int) (A : Option Addr) (c : Nat) (l : List Int) (q : Int) (w : World) (hA : PcsAt w w.heap.size A l) (hl : l.length ≤ 100) :
    Calls Tryd.prog 25 #[bV f r A l.length c, .int .i8 q] w (NewI (ixL (fun p : Int => p == q) l l.length) w) := by
  have hK := Lib.hid (KB.first f r A l.length c w 26)
  have hAW : Hid (∀ W, Below w.heap.size w W → PcsAt W w.heap.size A l) := fun W hb => hA.below (Nat.le_refl _) hb
  clear hA
  go_enter Tryd.func25, Tryd.ntmps25
  go_upto_region 1 with fail
  generalize w.alloc (.cells #[.int .i64 f, .int .i64 r, .slice A l.length c] 26) = w1 at *
  go_wp2_with fail
  go_loopw [5, 6] (fun sv i wr => ∃ (k : Nat) (A2 : Option Addr) (c2 : Nat) (X : List Int), k ≤ l.length ∧ i = .int .i64 k ∧ sv = .slice A2 X.length c2 ∧ Hid (ixL (fun p : Int => p == q) l k = X) ∧ Hid (O1 iEnc 1 w1.heap.size 3 w1 wr A2 c2 X)) (fun _ i _ => l.length - (intOf i).toNat)
  case atStart => exact ⟨0, none, 0, [], by omega, rfl, rfl, rfl, ⟨owns_nil, Below.refl _ _, Nat.le_refl _⟩⟩
  case round =>
    obtain ⟨k, A2, c2, X, hk, rfl, rfl, hX, hO⟩ := hrel
    have hKr := Lib.hid (hK.out.next hO.out.below)
    have c0 := hKr.out.c0
    have c1 := hKr.out.c1
    have d2 := hKr.out.c2
    have hXl : X.length ≤ 100 := by rw [← hX.out]; have := ixL_len (fun p : Int => p == q) l k; omega
    by_cases hkn : k < l.length
    · obtain ⟨b, off, rfl, hb, hc⟩ := hAW.out _ hKr.out.below (by omega)
      obtain ⟨x, hx⟩ : ∃ x, l[k]? = some x := ⟨_, List.getElem?_eq_getElem hkn⟩
      have m0 := pcs1 hc hx
      clear hc
      by_cases hp : x = q
      · obtain ⟨X2, hX2⟩ : ∃ X2, X ++ [(k : Int)] = X2 := ⟨_, rfl⟩
        have hn : Hid (ixL (fun p : Int => p == q) l (k + 1) = X2) := by show _ = _; rw [ixL_yes hx (by show (_ == _) = true; rw [beq_iff_eq]; exact hp), hX.out, hX2]
        replace hX2 := Lib.hid hX2
        replace hx := Lib.hid hx
        go_wp2_with (first
          | (at_builtin; refine wpList_append_recs intRow iEnc_len iEnc_one rfl _ _ rfl w1.heap.size A2 c2 X rfl (hO.out.alloc _).own _ 1 [(k : Int)] rfl (recs_int _ _ _) (by simp only [List.length_cons, List.length_nil]; omega) (hO.out.alloc _).size ?_; intro A' c' w' hown hg _; rw [hX2.out] at hown ⊢; have hO' := Lib.hid ((hO.out.alloc _).app hown hg); clear hown hg))
        go_roundw
        case rel => exact ⟨k + 1, A', c', X2, by omega, by go_num, rfl, hn, hO'⟩
        case measure => simp [intOf]; omega
      · have hn : Hid (ixL (fun p : Int => p == q) l (k + 1) = X) := by show _ = _; rw [ixL_no hx (by show (_ == _) = false; rw [beq_eq_false_iff_ne]; exact hp), hX.out]
        replace hx := Lib.hid hx
        go_wp2_with (fail)
        go_roundw
        case rel => exact ⟨k + 1, A2, c2, X, by omega, by go_num, rfl, hn, hO⟩
        case measure => simp [intOf]; omega
    · obtain rfl : k = l.length := by omega
      go_wp2_with fail
      go_ret
      exact ⟨A2, c2, by rw [hX.out]; first | done | rfl, by rw [hX.out]; exact hO.out.lower hK.out.below.size hK.out.below⟩
set_option maxRecDepth 100000 in
set_option maxHeartbeats 1000000 in
theorem rsidel (f r : Int) (A : Option Addr) (c : Nat) (l : List Int) (s : Int) (w : World) (hA : PcsAt w w.heap.size A l) (hl : l.length ≤ 100) :
    Calls Tryd.prog 26 #[bV f r A l.length c, .int .i64 s] w (NewI (ixL (fun p : Int => p.sign == s) l l.length) w) := by
  have hK := Lib.hid (KB.first f r A l.length c w 26)
  have hAW : Hid (∀ W, Below w.heap.size w W → PcsAt W w.heap.size A l) := fun W hb => hA.below (Nat.le_refl _) hb
  clear hA
  go_enter Tryd.func26, Tryd.ntmps26
  go_upto_region 1 with fail
  generalize w.alloc (.cells #[.int .i64 f, .int .i64 r, .slice A l.length c] 26) = w1 at *
  go_wp2_with fail
  go_loopw [5, 6] (fun sv i wr => ∃ (k : Nat) (A2 : Option Addr) (c2 : Nat) (X : List Int), k ≤ l.length ∧ i = .int .i64 k ∧ sv = .slice A2 X.length c2 ∧ Hid (ixL (fun p : Int => p.sign == s) l k = X) ∧ Hid (O1 iEnc 1 w1.heap.size 3 w1 wr A2 c2 X)) (fun _ i _ => l.length - (intOf i).toNat)
  case atStart => exact ⟨0, none, 0, [], by omega, rfl, rfl, rfl, ⟨owns_nil, Below.refl _ _, Nat.le_refl _⟩⟩
  case round =>
    obtain ⟨k, A2, c2, X, hk, rfl, rfl, hX, hO⟩ := hrel
    have hKr := Lib.hid (hK.out.next hO.out.below)
    have c0 := hKr.out.c0
    have c1 := hKr.out.c1
    have d2 := hKr.out.c2
    have hXl : X.length ≤ 100 := by rw [← hX.out]; have := ixL_len (fun p : Int => p.sign == s) l k; omega
    by_cases hkn : k < l.length
    · obtain ⟨b, off, rfl, hb, hc⟩ := hAW.out _ hKr.out.below (by omega)
      obtain ⟨x, hx⟩ : ∃ x, l[k]? = some x := ⟨_, List.getElem?_eq_getElem hkn⟩
      have m0 := pcs1 hc hx
      clear hc
      by_cases hp : x.sign = s
      · obtain ⟨X2, hX2⟩ : ∃ X2, X ++ [(k : Int)] = X2 := ⟨_, rfl⟩
        have hn : Hid (ixL (fun p : Int => p.sign == s) l (k + 1) = X2) := by show _ = _; rw [ixL_yes hx (by show (_ == _) = true; rw [beq_iff_eq]; exact hp), hX.out, hX2]
        replace hX2 := Lib.hid hX2
        replace hx := Lib.hid hx
        go_wp2_with (first
          | (go_at_call 45; refine (PC.rside _ _).mono ?_; rintro e w' ⟨rfl, rfl⟩)
          | (at_builtin; refine wpList_append_recs intRow iEnc_len iEnc_one rfl _ _ rfl w1.heap.size A2 c2 X rfl (hO.out.alloc _).own _ 1 [(k : Int)] rfl (recs_int _ _ _) (by simp only [List.length_cons, List.length_nil]; omega) (hO.out.alloc _).size ?_; intro A' c' w' hown hg _; rw [hX2.out] at hown ⊢; have hO' := Lib.hid ((hO.out.alloc _).app hown hg); clear hown hg))
        go_roundw
        case rel => exact ⟨k + 1, A', c', X2, by omega, by go_num, rfl, hn, hO'⟩
        case measure => simp [intOf]; omega
      · have hn : Hid (ixL (fun p : Int => p.sign == s) l (k + 1) = X) := by show _ = _; rw [ixL_no hx (by show (_ == _) = false; rw [beq_eq_false_iff_ne]; exact hp), hX.out]
        replace hx := Lib.hid hx
        go_wp2_with ((go_at_call 45; refine (PC.rside _ _).mono ?_; rintro e w' ⟨rfl, rfl⟩))
        go_roundw
        case rel => exact ⟨k + 1, A2, c2, X, by omega, by go_num, rfl, hn, hO⟩
        case measure => simp [intOf]; omega
    · obtain rfl : k = l.length := by omega
      go_wp2_with fail
      go_ret
      exact ⟨A2, c2, by rw [hX.out]; first | done | rfl, by rw [hX.out]; exact hO.out.lower hK.out.below.size hK.out.below⟩
set_option maxRecDepth 100000 in
set_option maxHeartbeats 1000000 in
theorem rmat (f r : Int) (A : Option Addr) (c : Nat) (l : List Int) (s : Int) (w : World) (hA : PcsAt w w.heap.size A l) (hl : l.length ≤ 100) (hall : ∀ p, p ∈ l → -15 ≤ p ∧ p ≤ 15) :
    Calls Tryd.prog 27 #[bV f r A l.length c, .int .i64 s] w fun e w' => e = .returned (.int .i64 (sM (fun p : Int => p.sign == s) l l.length)) ∧ Below w.heap.size w w' := by
  have hK := Lib.hid (KB.first f r A l.length c w 26)
  have hAW : Hid (∀ W, Below w.heap.size w W → PcsAt W w.heap.size A l) := fun W hb => hA.below (Nat.le_refl _) hb
  replace hall := Lib.hid hall
  clear hA
  obtain ⟨X, hX⟩ : ∃ X, ixL (fun p : Int => p.sign == s) l l.length = X := ⟨_, rfl⟩
  have hR : Hid (vs l X X.length = sM (fun p : Int => p.sign == s) l l.length) := by show _ = _; rw [← hX]; exact vs_ixL _ _ _
  have hXl : X.length ≤ 100 := by rw [← hX]; have := ixL_len (fun p : Int => p.sign == s) l l.length; omega
  have hXm : Hid (∀ x, x ∈ X → 0 ≤ x ∧ x < (l.length : Int)) := fun x hx => by rw [← hX] at hx; exact ixL_mem _ _ _ x hx
  have hSd : Hid (∀ W, Below w.heap.size w W → Calls Tryd.prog 26 #[bV f r A l.length c, .int .i64 s] W (NewI X W)) := fun W hb => by
    have h := rsidel f r A c l s W ((hAW.out W hb).more hb.size) hl
    rw [hX] at h
    exact h
  replace hX := Lib.hid hX
  have c0 := hK.out.c0
  have c1 := hK.out.c1
  have c2 := hK.out.c2
  go_enter Tryd.func27, Tryd.ntmps27
  go_upto_region 1 with fail
  generalize w.alloc (.cells #[.int .i64 f, .int .i64 r, .slice A l.length c] 26) = w1 at *
  go_wp2_with fail
  go_at_call 26
  refine (hSd.out _ hK.out.below).mono ?_
  rintro e w2 ⟨A2, c2', rfl, hO⟩
  replace hK := Lib.hid (hK.out.next hO.below)
  replace hO := Lib.hid (RecAt.of_own iEnc_len rfl hO.own)
  clear c0 c1 c2
  have c0 := hK.out.c0
  have c1 := hK.out.c1
  have c2 := hK.out.c2
  go_wp2_with fail
  go_loopw [5, 7] (fun sv i wr => ∃ (j : Nat), j ≤ X.length ∧ i = .int .i64 j ∧ sv = .int .i64 (vs l X j) ∧ Hid (KB f r A l.length c w wr) ∧ Hid (RecAt iEnc 1 wr wr.heap.size A2 X)) (fun _ i _ => X.length - (intOf i).toNat)
  case atStart => exact ⟨0, by omega, rfl, rfl, hK, hO⟩
  case round =>
    clear hK hO c0 c1 c2
    obtain ⟨j, hj, rfl, rfl, hK, hO⟩ := hrel
    have c0 := hK.out.c0
    have c1 := hK.out.c1
    have c2 := hK.out.c2
    by_cases hjn : j < X.length
    · obtain ⟨b2, o2, rfl, hb2, hc2⟩ := hO.out (by omega)
      obtain ⟨i, hi⟩ : ∃ i, X[j]? = some i := ⟨_, List.getElem?_eq_getElem hjn⟩
      have n0 := hc2 j i hi 0 (.int .i64 i) rfl
      rw [Nat.mul_one, Nat.add_zero] at n0
      obtain ⟨i0, i1⟩ := hXm.out i (List.mem_of_getElem? hi)
      obtain ⟨k, rfl⟩ : ∃ k : Nat, i = k := ⟨i.toNat, by omega⟩
      have hkn : k < l.length := by omega
      obtain ⟨b, off, rfl, hb, hc⟩ := hAW.out _ hK.out.below (by omega)
      obtain ⟨x, hx⟩ : ∃ x, l[k]? = some x := ⟨_, List.getElem?_eq_getElem hkn⟩
      have m0 := pcs1 hc hx
      clear hc hc2
      obtain ⟨x0, x1⟩ := hall.out x (List.mem_of_getElem? hx)
      obtain ⟨v0, v1⟩ := val_bd x0 x1
      obtain ⟨s0, s1⟩ := vs_bd (X := X) hall.out j
      have hs : Hid (vs l X (j + 1) = vs l X j + PC.valV x) := by
        show vs l X j + PC.valV (l.getD (X.getD j 0).toNat 0) = _
        rw [show X.getD j 0 = (k : Int) by rw [List.getD, hi]; rfl, show l.getD (k : Int).toNat 0 = x by rw [Int.toNat_natCast, List.getD, hx]; rfl]
      replace hi := Lib.hid hi
      replace hx := Lib.hid hx
      have hd := fun n => below_drewN (Below.refl wr.heap.size wr) n
      have hvl := Lib.hid (fun W : World => PC.rvalue x W x0 x1)
      generalize vs l X j = S1 at *
      generalize PC.valV x = V1 at *
      go_wp2_with fail
      go_quiet ((go_at_call 46; exact Calls.quiet_of_same ((hvl.out _).mono fun _ _ ⟨h1, h2⟩ => ⟨h1, h2.symm⟩)))
      go_wp2_with fail
      go_roundw
      case rel => exact ⟨j + 1, by omega, by go_num, by rw [hs.out], hK.out.drewN _, (hO.out.below (Nat.le_refl _) (hd _)).more (hd _).size⟩
      case measure => simp [intOf]; omega
    · obtain rfl : j = X.length := by omega
      go_wp2_with fail
      go_ret
      exact ⟨by rw [← hR.out]; first | done | rfl, hK.out.below⟩
end Go.Proofs.YtjglpphfkkabnaaDoor
