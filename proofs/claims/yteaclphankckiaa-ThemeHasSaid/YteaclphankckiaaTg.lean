/- Layer 35: the reference's path of a move. -/
import Derived.Test.YteaclphankckiaaTf
import Derived.Test.YteaclphankckiaaTe
namespace Go.Proofs.Yteaclphankckiaa
open Go Go.RowKit
set_option linter.unusedSimpArgs false
set_option linter.unusedVariables false

theorem own_lit1 {W : World} {base : Nat} (x : Int) (hb : base ≤ W.heap.size) : Own1 iEnc 1 base 3 (W.alloc (.cells #[.int .i64 x] 3)) (some ⟨W.heap.size, 0, none⟩) 1 [x] := World.ownsRow_lit W #[.int .i64 x] 1 hb (by unfold maxLen; omega) rfl
theorem own_lit2 {W : World} {base : Nat} (x y : Int) (hb : base ≤ W.heap.size) : Own1 iEnc 1 base 3 (W.alloc (.cells #[.int .i64 x, .int .i64 y] 3)) (some ⟨W.heap.size, 0, none⟩) 2 [x, y] := World.ownsRow_lit W #[.int .i64 x, .int .i64 y] 2 hb (by unfold maxLen; omega) rfl
/-- a new row in front of an old one -/
theorem O1.front {base : Nat} {w0 W w' : World} {A A' : Option Addr} {c c' : Nat} {l l' : List Int} {x : Int} {t : TypeId} (h : O1 iEnc 1 base 3 w0 W A c l) (hown : w'.ownsRow base 3 1 (.slice A' l'.length c') l'.length (flatR iEnc l')) (hg : (W.alloc (.cells #[.int .i64 x] t)).grownBy w' (Value.slice (some ⟨W.heap.size, 0, none⟩) [x].length 1).ownBlock) : O1 iEnc 1 base 3 w0 w' A' c' l' :=
  ⟨hown, (h.alloc _).below.grown hg (h.alloc _).size (fun k hk => by cases hk; exact h.size), Nat.le_trans (h.alloc _).size hg.size⟩
set_option maxRecDepth 100000 in
set_option maxHeartbeats 4000000 in
theorem rline (At : Option Addr) (t : List Nd) (ct i : Nat) (x : Nd) (w : World) (hT : RecAt nEnc 4 w w.heap.size At t) (hl : t.length ≤ 1000) (hx : t[i]? = some x) (hx0 : 0 ≤ x.1) (hx1 : x.1 ≤ 1001) :
    Calls Try.prog 33 #[.slice At t.length ct, .int .i64 (i : Int)] w fun e w' => ∃ A c, e = .returned (.slice A (lineI t i x.1).length c) ∧ O1 iEnc 1 w.heap.size 3 w w' A c (lineI t i x.1) := by
  have hTH := Lib.hid hT
  have hil : i < t.length := (List.getElem?_eq_some_iff.1 hx).1
  have hiI : (i : Int) < (t.length : Int) := by omega
  have hi0 : (0 : Int) ≤ (i : Int) := Int.natCast_nonneg _
  obtain ⟨b, off, rfl, hb, e0, _, _, _⟩ := nd4 hT hx
  obtain ⟨full, hfull⟩ : ∃ full, lineI t i x.1 = full := ⟨_, rfl⟩
  rw [hfull]
  have hst : Hid (((ancX x.1 (back t i)).map fun z => (z.1 : Int)).reverse ++ [(i : Int)] = full) := by show _ = _; rw [← hfull]; unfold lineI; rw [List.reverse_cons]
  have hO0 : Hid (O1 iEnc 1 w.heap.size 3 w (w.alloc (.cells #[.int .i64 (i : Int)] 3)) (some ⟨w.heap.size, 0, none⟩) 1 [(i : Int)]) := ⟨own_lit1 _ (Nat.le_refl _), (Below.refl _ _).alloc (Nat.le_refl _) _, by simp⟩
  clear hT hfull
  replace hx := Lib.hid hx
  obtain ⟨p, mm⟩ := x
  have e0' : w.cell? ⟨b, off + i * 4, none⟩ = some (.int .i64 p) := e0
  have hx0' : 0 ≤ p := hx0
  have hx1' : p ≤ 1001 := hx1
  clear e0 hx0 hx1
  go_enter Try.func33, Try.ntmps33
  go_upto_region 2 with fail
  generalize hw1 : w.alloc (.cells #[.int .i64 (i : Int)] 3) = w1 at *
  have e1 : w1.cell? ⟨b, off + i * 4, none⟩ = some (.int .i64 p) := (hO0.out.below.cell (p := ⟨b, off + i * 4, none⟩) hb).trans e0'
  clear hw1 e0'
  go_wp2_with fail
  clear e1
  go_loopw [5, 6, 7] (fun s5 s6 s7 wr => ∃ (m : Nat) (y pl : Int) (A2 : Option Addr) (c2 : Nat) (o : List Int), m ≤ i ∧ s7 = .int .i64 y ∧ y = (m : Int) - 1 ∧ s6 = .int .i64 pl ∧ p - ((i : Int) - (m : Int)) ≤ pl ∧ pl ≤ p ∧ s5 = .slice A2 o.length c2 ∧ o.length + m ≤ i + 1 ∧ Hid (((ancX pl (back t m)).map fun z => (z.1 : Int)).reverse ++ o = full) ∧ Hid (O1 iEnc 1 w.heap.size 3 w wr A2 c2 o)) (fun _ _ s7 _ => (intOf s7 + 1).toNat)
  case atStart => exact ⟨i, _, p, _, _, [(i : Int)], Nat.le_refl _, rfl, by first | rfl | omega, rfl, by omega, Int.le_refl _, rfl, by simp; omega, hst, hO0⟩
  case round =>
    clear hst hO0
    obtain ⟨m, y, pl, A2, c2, o, hm, rfl, hy, rfl, hp1, hp2, rfl, hol, hoo, hO⟩ := hrel
    by_cases hm0 : 0 < m
    · obtain ⟨j, rfl⟩ : ∃ j, m = j + 1 := ⟨m - 1, by omega⟩
      obtain rfl : y = (j : Int) := by omega
      clear hy
      obtain ⟨z, hz⟩ : ∃ z, t[j]? = some z := ⟨_, List.getElem?_eq_getElem (by omega)⟩
      obtain ⟨b', off', he, _, f0, _, _, _⟩ := nd4 hTH.out hz
      obtain ⟨rfl, rfl⟩ : b' = b ∧ off' = off := by
        simp only [Option.some.injEq, Addr.mk.injEq, and_true] at he
        exact ⟨he.1.symm, he.2.symm⟩
      have hj0 : (0 : Int) ≤ (j : Int) := Int.natCast_nonneg _
      have hjI : (j : Int) < (t.length : Int) := by omega
      have hbk := Lib.hid (back_succ hz)
      have hbl := Lib.hid (back_length (t := t) (k := j) (by omega))
      have m0 := (hO.out.below.cell (p := ⟨b', off' + j * 4, none⟩) hb).trans f0
      clear he f0
      replace hz := Lib.hid hz
      obtain ⟨zp, zm⟩ := z
      have m0' : wr.cell? ⟨b', off' + j * 4, none⟩ = some (.int .i64 zp) := m0
      clear m0
      by_cases hzp : zp = pl - 1
      · have hteq : (zp == pl - 1) = true := by rw [hzp]; exact beq_self_eq_true _
        obtain ⟨o2, ho2⟩ : ∃ o2, [(j : Int)] ++ o = o2 := ⟨_, rfl⟩
        have hoo2 : Hid (((ancX (pl - 1) (back t j)).map fun z => (z.1 : Int)).reverse ++ o2 = full) := by
          show _ = _
          rw [← hoo.out, hbk.out, ancX_yes (y := (zp, zm)) hzp, List.map_cons, List.reverse_cons, ← ho2, List.append_assoc]
          congr 2
          show [(j : Int)] = [((back t j).length : Int)]
          rw [hbl.out]
        have ho2l : o2.length + j ≤ i + 1 := by rw [← ho2, List.length_append, List.length_cons, List.length_nil]; omega
        clear hoo hzp
        replace ho2 := Lib.hid ho2
        go_wp2_with (at_builtin; refine wpList_append_recs intRow iEnc_len iEnc_one rfl _ _ rfl w.heap.size (some ⟨wr.heap.size, 0, none⟩) 1 [(j : Int)] rfl (own_lit1 _ hO.out.size) A2 c2 o rfl ((hO.out.alloc _).recs iEnc_len) (by simp only [List.length_cons, List.length_nil]; omega) (hO.out.alloc _).size ?_; intro A3 c3 w3 hown3 hg3 _; have hO3 := Lib.hid (hO.out.front (by rw [ho2.out] at hown3; exact hown3) hg3); rw [ho2.out]; clear hown3 hg3)
        go_roundw
        case rel => exact ⟨j, _, pl - 1, A3, c3, o2, by omega, rfl, by first | rfl | omega, by first | rfl | go_num, by omega, by omega, rfl, ho2l, hoo2, hO3⟩
        case measure => simp [intOf]; try omega
      · have hteq : (zp == pl - 1) = false := by rw [beq_eq_false_iff_ne]; exact hzp
        have hoo2 : Hid (((ancX pl (back t j)).map fun z => (z.1 : Int)).reverse ++ o = full) := by
          show _ = _
          rw [← hoo.out, hbk.out, ancX_no (y := (zp, zm)) hzp]
        clear hoo hzp
        go_wp2_with fail
        go_roundw
        case rel => exact ⟨j, _, pl, A2, c2, o, by omega, rfl, by first | rfl | omega, rfl, by omega, by omega, rfl, by omega, hoo2, hO⟩
        case measure => simp [intOf]; try omega
    · obtain rfl : m = 0 := by omega
      have hy0 : y = -1 := by omega
      subst hy0
      clear hy
      obtain rfl : o = full := by
        have h := hoo.out
        rw [back_zero] at h
        exact h
      clear hoo
      go_wp2_with fail
      go_ret
      exact ⟨A2, c2, rfl, hO.out⟩
end Go.Proofs.Yteaclphankckiaa
