/- Layer 35: the references' Before and After. -/
import Derived.Test.YteaclphankckiaaTa
import Derived.Test.YteaclphankckiaaTi
namespace Go.Proofs.Yteaclphankckiaa
open Go.RowKit
set_option linter.unusedSimpArgs false
set_option linter.unusedVariables false

/-- the index of the last node of a lower ply, or -1 (the nodes stand the last one first) -/
def bef (p : Int) : List Nd → Int
  | [] => -1
  | y :: r => if y.1 < p then (r.length : Int) else bef p r
/-- the indexes of the nodes directly after one of ply P, from index k on -/
def aft (P : Int) : List Nd → Nat → List Int
  | [], _ => []
  | y :: r, k => if P < y.1 then (if y.1 = P + 1 then [(k : Int)] else []) ++ aft P r (k + 1) else []
theorem bef_yes {p : Int} {y : Nd} {r : List Nd} (h : y.1 < p) : bef p (y :: r) = (r.length : Int) := if_pos h
theorem bef_no {p : Int} {y : Nd} {r : List Nd} (h : ¬ y.1 < p) : bef p (y :: r) = bef p r := if_neg h
theorem bef_bd (p : Int) : ∀ r : List Nd, -1 ≤ bef p r ∧ bef p r < (r.length : Int)
  | [] => ⟨Int.le_refl _, by show (-1 : Int) < 0; decide⟩
  | y :: r => by
    have := bef_bd p r
    unfold bef
    rw [List.length_cons]
    split <;> omega
theorem aft_one {P : Int} {y : Nd} {r : List Nd} {k : Nat} (h : y.1 = P + 1) : aft P (y :: r) k = (k : Int) :: aft P r (k + 1) := by
  show (if P < y.1 then (if y.1 = P + 1 then [(k : Int)] else []) ++ aft P r (k + 1) else []) = _
  rw [if_pos (by omega), if_pos h]; rfl
theorem aft_skip {P : Int} {y : Nd} {r : List Nd} {k : Nat} (h : P < y.1) (h2 : y.1 ≠ P + 1) : aft P (y :: r) k = aft P r (k + 1) := by
  show (if P < y.1 then (if y.1 = P + 1 then [(k : Int)] else []) ++ aft P r (k + 1) else []) = _
  rw [if_pos h, if_neg h2]; rfl
theorem aft_stop {P : Int} {y : Nd} {r : List Nd} {k : Nat} (h : ¬ P < y.1) : aft P (y :: r) k = [] := if_neg h
theorem aft_len (P : Int) : ∀ (r : List Nd) (k : Nat), (aft P r k).length ≤ r.length
  | [], _ => Nat.le_refl _
  | y :: r, k => by
    have := aft_len P r (k + 1)
    unfold aft
    rw [List.length_cons]
    split
    · rw [List.length_append]
      split <;> simp <;> omega
    · simp
theorem drop_cons {α : Type} {l : List α} {k : Nat} {x : α} (h : l[k]? = some x) : l.drop k = x :: l.drop (k + 1) := by
  have hl := (List.getElem?_eq_some_iff.1 h)
  obtain ⟨h1, h2⟩ := hl
  rw [List.drop_eq_getElem_cons h1, h2]
set_option maxRecDepth 100000 in
set_option maxHeartbeats 1000000 in
theorem rbefore (A : Option Addr) (t : List Nd) (c i : Nat) (x : Nd) (w : World) (hT : RecAt nEnc 4 w w.heap.size A t) (hl : t.length ≤ 1000) (hx : t[i]? = some x) :
    Calls Try.prog 63 #[.slice A t.length c, .int .i64 (i : Int)] w fun e w' => e = .returned (.int .i64 (bef x.1 (back t i))) ∧ Below w.heap.size w w' := by
  have hil : i < t.length := (List.getElem?_eq_some_iff.1 hx).1
  have hiI : (i : Int) < (t.length : Int) := by omega
  obtain ⟨b, off, rfl, hb, e0, _, _, _⟩ := nd4 hT hx
  have hTH := Lib.hid hT
  replace hx := Lib.hid hx
  clear hT
  obtain ⟨p, mm⟩ := x
  have e0' : w.cell? ⟨b, off + i * 4, none⟩ = some (.int .i64 p) := e0
  clear e0
  replace e0' := Lib.hid e0'
  go_enter Try.func63, Try.ntmps63
  go_wp2_with fail
  go_loopw [5] (fun s wr => ∃ (m : Nat) (y : Int), m ≤ i ∧ s = .int .i64 y ∧ y = (m : Int) - 1 ∧ Hid (bef p (back t i) = bef p (back t m)) ∧ Hid (Below w.heap.size w wr)) (fun s _ => (intOf s + 1).toNat)
  case atStart => exact ⟨i, _, Nat.le_refl _, rfl, by first | rfl | go_num | omega, rfl, Below.refl _ _⟩
  case round =>
    obtain ⟨m, y, hm, rfl, hy, hbf, hbl⟩ := hrel
    by_cases hm0 : 0 < m
    · obtain ⟨j, rfl⟩ : ∃ j, m = j + 1 := ⟨m - 1, by omega⟩
      obtain rfl : y = (j : Int) := by omega
      clear hy
      obtain ⟨z, hz⟩ : ∃ z, t[j]? = some z := ⟨_, List.getElem?_eq_getElem (by omega)⟩
      obtain ⟨b', off', he, _, e1, _, _, _⟩ := nd4 hTH.out hz
      obtain ⟨rfl, rfl⟩ : b' = b ∧ off' = off := by
        simp only [Option.some.injEq, Addr.mk.injEq, and_true] at he
        exact ⟨he.1.symm, he.2.symm⟩
      have m0 := (hbl.out.cell (p := ⟨b', off' + i * 4, none⟩) hb).trans e0'.out
      have m1 := (hbl.out.cell (p := ⟨b', off' + j * 4, none⟩) hb).trans e1
      have hj0 : (0 : Int) ≤ (j : Int) := Int.natCast_nonneg _
      have hi0 : (0 : Int) ≤ (i : Int) := Int.natCast_nonneg _
      have hjI : (j : Int) < (t.length : Int) := by omega
      have hbk := Lib.hid (back_succ hz)
      have hln := back_length (t := t) (k := j) (by omega)
      clear he e1
      replace hz := Lib.hid hz
      replace hln := Lib.hid hln
      obtain ⟨z1, zm⟩ := z
      have m1' : wr.cell? ⟨b', off' + j * 4, none⟩ = some (.int .i64 z1) := m1
      clear m1
      by_cases hlt : z1 < p
      · have hd : decide (z1 < p) = true := decide_eq_true hlt
        have hfin : Hid (bef p (back t i) = (j : Int)) := by show _ = _; rw [hbf.out, hbk.out, bef_yes (show ((z1, zm) : Nd).1 < p from hlt), hln.out]
        go_upto_region 4 with fail
        go_quiet (fail)
        go_wp2_with fail
        go_ret
        exact ⟨ri hfin.out.symm, below_drewN hbl.out _⟩
      · have hd : decide (z1 < p) = false := decide_eq_false hlt
        have hfin : Hid (bef p (back t i) = bef p (back t j)) := by show _ = _; rw [hbf.out, hbk.out, bef_no (show ¬ ((z1, zm) : Nd).1 < p from hlt)]
        go_upto_region 4 with fail
        go_quiet (fail)
        go_wp2_with fail
        go_roundw
        case rel => exact ⟨j, _, by omega, rfl, by first | rfl | go_num | omega, hfin, below_drewN hbl.out _⟩
        case measure => simp [intOf]; try omega
    · obtain rfl : m = 0 := by omega
      have hy0 : y = -1 := by omega
      subst hy0
      clear hy
      have hfin : Hid (bef p (back t i) = -1) := by show _ = _; rw [hbf.out, back_zero]; rfl
      go_wp2_with fail
      go_ret
      exact ⟨ri hfin.out.symm, hbl.out⟩
/-- what After returns -/
def AftP (l : List Nd) (n0 : Nat) (P : Int) (w : World) (e : Ending) (w' : World) : Prop :=
  ∃ (A : Option Addr) (c : Nat), e = .returned (.slice A (aft P (l.drop n0) n0).length c) ∧ O1 iEnc 1 w.heap.size 3 w w' A c (aft P (l.drop n0) n0)
set_option maxRecDepth 100000 in
set_option maxHeartbeats 4000000 in
theorem rafter (A : Option Addr) (l : List Nd) (c n0 : Nat) (P : Int) (w : World) (hT : RecAt nEnc 4 w w.heap.size A l) (hl : l.length ≤ 1000) (hn : n0 ≤ l.length) (hP0 : 0 ≤ P) (hP1 : P ≤ 100000)
    (hP : n0 = 0 ∧ P = 0 ∨ ∃ (j : Nat) (x : Nd), n0 = j + 1 ∧ l[j]? = some x ∧ x.1 = P) :
    Calls Try.prog 62 #[.slice A l.length c, .int .i64 ((n0 : Int) - 1)] w (AftP l n0 P w) := by
  obtain ⟨b0, hb0⟩ : ∃ b : Int, (n0 : Int) - 1 = b := ⟨_, rfl⟩
  have hw0 : IntKind.i64.wrap (b0 + 1) = (n0 : Int) := by rw [← hb0, Int.sub_add_cancel]; exact IntWalk.i64_in _ (by omega)
  have hb1 : -1 ≤ b0 := by omega
  have hb2 : b0 ≤ 1000 := by omega
  have hs1 : b0 + 1 = (n0 : Int) := by omega
  have hTH := Lib.hid hT
  have hsH := Lib.hid hs1
  rw [hb0]
  replace hb0 := Lib.hid hb0
  clear hT hs1
  go_enter Try.func62, Try.ntmps62
  go_upto_if 9 with fail
  go_cut [5] from 10 to 14 (fun s5 wc => s5 = .int .i64 P ∧ w = wc)
  case first =>
    rcases hP with ⟨h0, rfl⟩ | ⟨j, x, hj, hx, rfl⟩
    · have hlt : b0 < 0 := by have := hsH.out; omega
      have hge : ((0 : Int) ≤ b0) = False := by rw [eq_iff_iff, iff_false]; omega
      go_wp2_with fail
      go_meet
      exact ⟨rfl, rfl⟩
    · obtain ⟨b, off, rfl, hb, e0, _, _, _⟩ := nd4 hTH.out hx
      have hbj : b0 = (j : Int) := by have := hsH.out; omega
      have hge : (0 : Int) ≤ b0 := by omega
      have hjl : j < l.length := (List.getElem?_eq_some_iff.1 hx).1
      have hjI : (j : Int) < (l.length : Int) := by omega
      have hj0 : (0 : Int) ≤ (j : Int) := Int.natCast_nonneg _
      subst hbj
      replace hx := Lib.hid hx
      clear hw0
      go_wp2_with fail
      go_meet
      exact ⟨rfl, rfl⟩
  obtain ⟨rfl, rfl⟩ := hcut
  clear hP
  obtain ⟨out, hout⟩ : ∃ out, aft P (l.drop n0) n0 = out := ⟨_, rfl⟩
  have hfo : Hid (∀ (o : List Int) (A2 : Option Addr) (c2 : Nat) (wr : World), o = out → O1 iEnc 1 w.heap.size 3 w wr A2 c2 o → AftP l n0 P w (.returned (.slice A2 o.length c2)) wr) := fun o A2 c2 wr e hO => by
    subst e
    exact ⟨A2, c2, by rw [hout], by rw [hout]; exact hO⟩
  have hout2 : Hid ([] ++ aft P (l.drop n0) n0 = out) := by show _ = _; rw [List.nil_append]; exact hout
  clear hout
  go_wp2_with fail
  go_loopw [6, 7] (fun s6 s7 wr => ∃ (k : Nat) (A2 : Option Addr) (c2 : Nat) (o : List Int), k ≤ l.length ∧ s7 = .int .i64 k ∧ s6 = .slice A2 o.length c2 ∧ o.length ≤ k ∧ Hid (o ++ aft P (l.drop k) k = out) ∧ Hid (O1 iEnc 1 w.heap.size 3 w wr A2 c2 o)) (fun _ s7 _ => l.length - (intOf s7).toNat)
  case atStart => exact ⟨n0, none, 0, [], hn, by first | rfl | (rw [hsH.out]), rfl, Nat.zero_le _, hout2, O1.nil (Below.refl _ _) (Nat.le_refl _)⟩
  case round =>
    clear hout2 hw0
    obtain ⟨k, A2, c2, o, hk, rfl, rfl, hol, hoo, hO⟩ := hrel
    by_cases hkn : k < l.length
    · obtain ⟨x, hx⟩ : ∃ x, l[k]? = some x := ⟨_, List.getElem?_eq_getElem hkn⟩
      obtain ⟨b, off, rfl, hb, e0, _, _, _⟩ := nd4 hTH.out hx
      have m0 := (hO.out.below.cell (p := ⟨b, off + k * 4, none⟩) hb).trans e0
      have hki : (k : Int) < (l.length : Int) := by omega
      have hdr := Lib.hid (drop_cons hx)
      replace hx := Lib.hid hx
      clear e0
      obtain ⟨p, mm⟩ := x
      have m0' : wr.cell? ⟨b, off + k * 4, none⟩ = some (.int .i64 p) := m0
      clear m0
      by_cases hlt : P < p
      · by_cases he : p = P + 1
        · have hd2 : (p == P + 1) = true := by rw [he]; exact beq_self_eq_true _
          obtain ⟨o2, ho2⟩ : ∃ o2, o ++ [(k : Int)] = o2 := ⟨_, rfl⟩
          have hnx : Hid (o2 ++ aft P (l.drop (k + 1)) (k + 1) = out) := by
            show _ = _
            rw [← hoo.out, hdr.out, aft_one (show ((p, mm) : Nd).1 = P + 1 from he), ← ho2, List.append_assoc]; rfl
          have ho2l : o2.length ≤ k + 1 := by rw [← ho2, List.length_append, List.length_cons, List.length_nil]; omega
          replace ho2 := Lib.hid ho2
          subst he
          go_wp2_with (at_builtin; refine wpList_append_recs intRow iEnc_len iEnc_one rfl _ _ rfl w.heap.size A2 c2 o rfl (hO.out.alloc _).own _ 1 [(k : Int)] rfl (recs_i _ _ _ rfl) (by simp only [List.length_cons, List.length_nil]; omega) (hO.out.alloc _).size ?_; intro A3 c3 w3 hown3 hg3 _; rw [ho2.out] at hown3 ⊢; have hO3 := Lib.hid ((hO.out.alloc _).app hown3 hg3); clear hown3 hg3)
          go_roundw
          case rel => exact ⟨k + 1, A3, c3, o2, by omega, by go_num, rfl, ho2l, hnx, hO3⟩
          case measure => simp [intOf]; omega
        · have hd2 : (p == P + 1) = false := by rw [beq_eq_false_iff_ne]; exact he
          have hnx : Hid (o ++ aft P (l.drop (k + 1)) (k + 1) = out) := by
            show _ = _
            rw [← hoo.out, hdr.out, aft_skip (show P < ((p, mm) : Nd).1 from hlt) he]
          clear he
          go_wp2_with fail
          go_roundw
          case rel => exact ⟨k + 1, A2, c2, o, by omega, by go_num, rfl, by omega, hnx, hO⟩
          case measure => simp [intOf]; omega
      · have hlt2 : (P < p) = False := by rw [eq_iff_iff, iff_false]; exact hlt
        have hfin : Hid (o = out) := by show _ = _; rw [← hoo.out, hdr.out, aft_stop (show ¬ P < ((p, mm) : Nd).1 from hlt), List.append_nil]
        clear hlt
        go_wp2_with fail
        go_ret
        exact hfo.out _ _ _ _ hfin.out hO.out
    · obtain rfl : k = l.length := by omega
      have hfin : Hid (o = out) := by show _ = _; rw [← hoo.out, List.drop_length]; exact (List.append_nil o).symm
      go_wp2_with fail
      go_ret
      exact hfo.out _ _ _ _ hfin.out hO.out
end Go.Proofs.Yteaclphankckiaa
