/- Layer 35: the reference's Fits and Valid. -/
import Derived.Test.YteaclphankckiaaTy
import Derived.Test.YteaclphankckiaaTv
import Derived.Test.YteaclphankckiaaTeq
namespace Go.Proofs.Yteaclphankckiaa
open Go.RowKit
set_option linter.unusedSimpArgs false
set_option linter.unusedVariables false

set_option maxRecDepth 100000 in
set_option maxHeartbeats 4000000 in
theorem rfits_in (A : Option Addr) (t : List Nd) (c i : Nat) (x : Nd) (w : World) (hT : RecAt nEnc 4 w w.heap.size A t) (hl : t.length ≤ 1000) (hc : t.length ≤ c) (hx : t[i]? = some x) (hch : chain (back t i)) (ht0 : 0 ≤ top (back t i)) (ht1 : top (back t i) ≤ 1000) (hp1 : 1 ≤ x.1) (hp2 : x.1 ≤ top (back t i) + 1) :
    Calls Try.prog 57 #[.slice A t.length c, .int .i64 (i : Int)] w fun e w' => e = .returned (.bool (fitB (back t i) x)) ∧ Below w.heap.size w w' := by
  have hil : i < t.length := (List.getElem?_eq_some_iff.1 hx).1
  have hiI : (i : Int) < (t.length : Int) := by omega
  have hi0 : (0 : Int) ≤ (i : Int) := Int.natCast_nonneg _
  have hic : (i : Int) ≤ (c : Int) := by omega
  have hit : (i : Int).toNat = i := Int.toNat_natCast i
  obtain ⟨p, mm⟩ := x
  have q1 : 1 ≤ p := hp1
  have q2 : p ≤ top (back t i) + 1 := hp2
  obtain ⟨n0, hn0⟩ : ∃ n0, (dw p (back t i)).length = n0 := ⟨_, rfl⟩
  obtain ⟨hd1, hd2⟩ := dw_back p (t := t) (i := i) (by omega)
  have hbf := bef_dw p (back t i)
  have htd := top_dw q1 hch q2
  have hsib := Lib.hid (sibs_aft (i := i) (by omega) q1 hch q2 mm)
  rw [hn0] at hd1 hd2 hbf hsib
  rw [hd2] at htd
  have hPs : n0 = 0 ∧ p - 1 = 0 ∨ ∃ (j : Nat) (x : Nd), n0 = j + 1 ∧ (t.take i)[j]? = some x ∧ x.1 = p - 1 := by
    rcases Nat.eq_zero_or_pos n0 with h | h
    · subst h
      rw [back_zero] at htd
      exact .inl ⟨rfl, by have : (0 : Int) = p - 1 := htd; omega⟩
    · obtain ⟨j, rfl⟩ : ∃ j, n0 = j + 1 := ⟨n0 - 1, by omega⟩
      obtain ⟨z, hz⟩ : ∃ z, t[j]? = some z := ⟨_, List.getElem?_eq_getElem (by omega)⟩
      rw [back_succ hz] at htd
      exact .inr ⟨j, z, rfl, by rw [List.getElem?_take, if_pos (by omega)]; exact hz, htd⟩
  have hfit : Hid (fitB (back t i) (p, mm) = !(decide (mm ∈ (aft (p - 1) ((t.take i).drop n0) n0).map (mvAt t)))) := by
    show _ = _
    unfold fitB
    have h2 : plyB (back t i) (p, mm) = true := decide_eq_true ⟨hp1, hp2⟩
    rw [h2, Bool.true_and]
    congr 1
    rw [Bool.eq_iff_iff, List.contains_iff_mem, decide_eq_true_iff]
    exact hsib.out
  have hTW : Hid (∀ W, Below w.heap.size w W → RecAt nEnc 4 W W.heap.size A t) := fun W hb => (hT.below (Nat.le_refl _) hb).more hb.size
  have hidx := Lib.hid (aft_idx (P := p - 1) ((t.take i).drop n0) n0)
  have hseg : ((t.take i).drop n0).length = i - n0 := by rw [List.length_drop, List.length_take, Nat.min_eq_left (by omega)]
  have hol := aft_len (p - 1) ((t.take i).drop n0) n0
  rw [hseg] at hol hidx
  have htl : (t.take i).length = i := by rw [List.length_take, Nat.min_eq_left (by omega)]
  have haf : Hid (∀ W bb, Below w.heap.size w W → bb = (n0 : Int) - 1 → Calls Try.prog 62 #[.slice A i c, .int .i64 bb] W (AftP (t.take i) n0 (p - 1) W)) := fun W bb hb hbe =>
    rafter_n A (t.take i) c i n0 (p - 1) bb W (recs_take (hTW.out W hb) i) htl (by omega) hd1 (by omega) (by omega) hPs hbe
  have hxH := Lib.hid hx
  replace hbf := Lib.hid hbf
  obtain ⟨b, off, rfl, hb, e0, e1, e2, e3⟩ := nd4 hT hx
  have e0' : w.cell? ⟨b, off + i * 4, none⟩ = some (.int .i64 p) := e0
  have i1' : decide (p < 1) = false := decide_eq_false (by omega)
  have hbe : Hid (∀ W, Below w.heap.size w W → Calls Try.prog 63 #[.slice (some ⟨b, off, none⟩) t.length c, .int .i64 (i : Int)] W fun e w' => e = .returned (.int .i64 (bef p (back t i))) ∧ Below W.heap.size W w') := fun W hb2 =>
    rbefore _ t c i (p, mm) W (hTW.out W hb2) hl hxH.out
  clear hT hx hd2 htd hsib hPs hn0 hp1 hp2 e0 hseg htl hch
  have hreg : Hid ((i = 0 ∧ p = 1) ∨ ∃ (j : Nat) (z1 : Int), i = j + 1 ∧ w.cell? ⟨b, off + j * 4, none⟩ = some (.int .i64 z1) ∧ 0 ≤ z1 ∧ z1 ≤ 1000 ∧ p ≤ z1 + 1) := by
    rcases Nat.eq_zero_or_pos i with h0 | h0
    · subst h0
      rw [back_zero] at q2
      exact .inl ⟨rfl, by have : p ≤ 0 + 1 := q2; omega⟩
    · obtain ⟨j, rfl⟩ : ∃ j, i = j + 1 := ⟨i - 1, by omega⟩
      obtain ⟨z, hz⟩ : ∃ z, t[j]? = some z := ⟨_, List.getElem?_eq_getElem (by omega)⟩
      obtain ⟨b', off', he, _, e1', _, _, _⟩ := nd4 (hTW.out w (Below.refl _ _)) hz
      obtain ⟨rfl, rfl⟩ : b' = b ∧ off' = off := by
        simp only [Option.some.injEq, Addr.mk.injEq, and_true] at he
        exact ⟨he.1.symm, he.2.symm⟩
      rw [back_succ hz] at q2 ht0 ht1
      exact .inr ⟨j, z.1, rfl, e1', ht0, ht1, q2⟩
  clear ht0 ht1 q2
  go_enter Try.func57, Try.ntmps57
  go_upto_region 1 with fail
  go_cut [43] from 7 to 43 (fun s43 wc => s43 = .bool false ∧ Hid (Below w.heap.size w wc))
  case first =>
    rcases hreg.out with ⟨h0, rfl⟩ | ⟨j, z1, hij, m1, j0, j1, j2⟩
    · have i3 : ((i : Int) == 0) = true := by rw [h0]; rfl
      have i4 : decide ((0 : Int) < (i : Int)) = false := by rw [h0]; rfl
      have i5 : ¬ 0 < i := by omega
      replace h0 := Lib.hid h0
      clear e1 e2 e3 hit hic
      go_quiet (fail)
      go_wp2_with fail
      go_meet
      exact ⟨rfl, below_drewN (Below.refl _ _) _⟩
    · have hw1 : IntKind.i64.wrap ((i : Int) - 1) = (j : Int) := by rw [show (i : Int) - 1 = (j : Int) by omega]; exact IntWalk.i64_in _ (by omega)
      have hw2 : IntKind.i64.wrap (z1 + 1) = z1 + 1 := IntWalk.i64_in _ (by omega)
      have i3 : ((i : Int) == 0) = false := by rw [beq_eq_false_iff_ne]; omega
      have i4 : decide ((0 : Int) < (i : Int)) = true := decide_eq_true (by omega)
      have i5 : decide (z1 + 1 < p) = false := decide_eq_false (by omega)
      have hjI : (j : Int) < (t.length : Int) := by omega
      have hj0 : (0 : Int) ≤ (j : Int) := Int.natCast_nonneg _
      have hjt : (j : Int).toNat = j := Int.toNat_natCast j
      have hpos : 0 < i := by omega
      have i6 : i ≠ 0 := by omega
      replace hij := Lib.hid hij
      clear e1 e2 e3 hit hic
      go_quiet (fail)
      go_wp2_with fail
      go_meet
      exact ⟨rfl, below_drewN (Below.refl _ _) _⟩
  obtain ⟨rfl, hbc⟩ := hcut
  clear i1' hreg
  have hb8 := hbc.out.size
  obtain ⟨out, hout⟩ : ∃ out, aft (p - 1) ((t.take i).drop n0) n0 = out := ⟨_, rfl⟩
  rw [hout] at hol hidx hfit
  have haf2 : Hid (∀ W bb, Below w.heap.size w W → bb = (n0 : Int) - 1 → Calls Try.prog 62 #[.slice (some ⟨b, off, none⟩) i c, .int .i64 bb] W fun e w' => ∃ (A : Option Addr) (c : Nat), e = .returned (.slice A out.length c) ∧ O1 iEnc 1 W.heap.size 3 W w' A c out) := fun W bb hb hbe => (haf.out W bb hb hbe).mono fun e w' h => by
    unfold AftP at h
    rw [hout] at h
    exact h
  clear haf
  replace hout := Lib.hid hout
  generalize wc = w1 at *
  go_upto_region 3 with fail
  go_region_held3 (fun W => True) (trivial)
    (first
      | (go_at_call 63; refine (hbe.out (World.drew w1) hbc.out.drew).mono ?_; rintro e w2 ⟨rfl, hb2⟩; replace hb2 := Lib.hid hb2)
      | (go_at_call 62; refine (haf2.out w2 _ (hbc.out.drew.trans (hb2.out.mono hb8)) hbf.out).mono ?_; rintro e w3 ⟨A2, c2, rfl, hO⟩; replace hO := Lib.hid hO))
  have hb3 : Hid (Below w.heap.size w w3) := (hbc.out.drew.trans (hb2.out.mono hb8)).trans (hO.out.below.mono (by have := hb2.out.size; have h2 : w1.drew.heap.size = w1.heap.size := rfl; omega))
  have hR := Lib.hid (hO.out.recs iEnc_len)
  clear hbe haf2 hO hb2 hbc hbf hb8
  go_wp2_with fail
  go_loopw [6] (fun s wr => ∃ k : Nat, k ≤ out.length ∧ s = .int .i64 k ∧ Hid (mm ∉ (out.take k).map (mvAt t)) ∧ Hid (Below w3.heap.size w3 wr)) (fun s _ => out.length - (intOf s).toNat)
  case atStart => exact ⟨0, Nat.zero_le _, rfl, (by intro h; simp at h), Below.refl _ _⟩
  case round =>
    obtain ⟨k, hk, rfl, hno, hbr⟩ := hrel
    by_cases hkn : k < out.length
    · obtain ⟨a, ha⟩ : ∃ a, out[k]? = some a := ⟨_, List.getElem?_eq_getElem hkn⟩
      obtain ⟨b2, off2, rfl, hb2', e4⟩ := rec1 hR.out ha
      obtain ⟨j, rfl, hj0, hj1⟩ := hidx.out a (List.mem_of_getElem? ha)
      obtain ⟨z, hz⟩ : ∃ z, t[j]? = some z := ⟨_, List.getElem?_eq_getElem (by omega)⟩
      obtain ⟨b', off', he, _, f0, f1, f2, f3⟩ := nd4 (hTW.out w (Below.refl _ _)) hz
      obtain ⟨rfl, rfl⟩ : b' = b ∧ off' = off := by
        simp only [Option.some.injEq, Addr.mk.injEq, and_true] at he
        exact ⟨he.1.symm, he.2.symm⟩
      have hbw : Hid (Below w.heap.size w wr) := hb3.out.trans (hbr.out.mono hb3.out.size)
      have m1 := (hbw.out.cell (p := ⟨b', off' + i * 4 + 1, none⟩) hb).trans e1
      have m2 := (hbw.out.cell (p := ⟨b', off' + i * 4 + 2, none⟩) hb).trans e2
      have m3 := (hbw.out.cell (p := ⟨b', off' + i * 4 + 3, none⟩) hb).trans e3
      have n1 := (hbw.out.cell (p := ⟨b', off' + j * 4 + 1, none⟩) hb).trans f1
      have n2 := (hbw.out.cell (p := ⟨b', off' + j * 4 + 2, none⟩) hb).trans f2
      have n3 := (hbw.out.cell (p := ⟨b', off' + j * 4 + 3, none⟩) hb).trans f3
      have k4 := (hbr.out.cell (p := ⟨b2, off2 + k, none⟩) hb2').trans e4
      have hjI : (j : Int) < (t.length : Int) := by omega
      have hj9 : (0 : Int) ≤ (j : Int) := Int.natCast_nonneg _
      have hk9 : (0 : Int) ≤ (k : Int) := Int.natCast_nonneg _
      have hkI : (k : Int) < (out.length : Int) := by omega
      have htk : Hid (out.take (k + 1) = out.take k ++ [(j : Int)]) := by show _ = _; rw [List.take_add_one, ha]; rfl
      have hmv := Lib.hid (mvAt_get hz)
      have hmem : Hid ((j : Int) ∈ out) := List.mem_of_getElem? ha
      clear he f0 f1 f2 f3 e1 e2 e3 e4 e0' hj1
      replace hz := Lib.hid hz
      replace ha := Lib.hid ha
      obtain ⟨zp, za, zb, zc⟩ := z
      obtain ⟨ma, mb, mc⟩ := mm
      have n1' : wr.cell? ⟨b', off' + j * 4 + 1, none⟩ = some (.int .i64 za) := n1
      have n2' : wr.cell? ⟨b', off' + j * 4 + 2, none⟩ = some (.int .i64 zb) := n2
      have n3' : wr.cell? ⟨b', off' + j * 4 + 3, none⟩ = some (.int .i8 zc) := n3
      have m1' : wr.cell? ⟨b', off' + i * 4 + 1, none⟩ = some (.int .i64 ma) := m1
      have m2' : wr.cell? ⟨b', off' + i * 4 + 2, none⟩ = some (.int .i64 mb) := m2
      have m3' : wr.cell? ⟨b', off' + i * 4 + 3, none⟩ = some (.int .i8 mc) := m3
      clear n1 n2 n3 m1 m2 m3
      have heq := fun w => run_eql_mv za zb zc ma mb mc w
      by_cases hzm : (za, zb, zc) = (ma, mb, mc)
      · have hE := mvE_yes hzm
        have hin : Hid (fitB (back t i) (p, ma, mb, mc) = false) := by
          show _ = _
          rw [hfit.out, decide_eq_true (List.mem_map.2 ⟨_, hmem.out, hmv.out.trans hzm⟩)]
          rfl
        replace hzm := Lib.hid hzm
        go_upto_region 7 with fail
        go_quiet (fail)
        go_wp2_with fail
        go_ret
        exact ⟨rb hin.out.symm, below_drewN hbw.out _⟩
      · have hE := mvE_no hzm
        have hno2 : Hid ((ma, mb, mc) ∉ (out.take (k + 1)).map (mvAt t)) := by
          show ¬ _
          rw [htk.out, List.map_append, List.mem_append, List.map_cons, List.map_nil, List.mem_singleton, hmv.out]
          rintro (h | h)
          · exact hno.out h
          · exact hzm h.symm
        replace hzm := Lib.hid hzm
        go_upto_region 7 with fail
        go_quiet (fail)
        go_wp2_with fail
        go_roundw
        case rel => exact ⟨k + 1, by omega, by go_num, hno2, below_drewN hbr.out _⟩
        case measure => simp [intOf]; omega
    · obtain rfl : k = out.length := by omega
      have hin : Hid (fitB (back t i) (p, mm) = true) := by
        show _ = _
        rw [hfit.out]
        have h2 := hno.out
        rw [List.take_length] at h2
        rw [decide_eq_false h2]
        rfl
      have hbw : Hid (Below w.heap.size w wr) := hb3.out.trans (hbr.out.mono hb3.out.size)
      go_wp2_with fail
      go_ret
      exact ⟨rb hin.out.symm, hbw.out⟩
theorem rfits (A : Option Addr) (t : List Nd) (c i : Nat) (x : Nd) (w : World) (hT : RecAt nEnc 4 w w.heap.size A t) (hl : t.length ≤ 1000) (hc : t.length ≤ c) (hx : t[i]? = some x) (hch : chain (back t i)) (ht0 : 0 ≤ top (back t i)) (ht1 : top (back t i) ≤ 1000) :
    Calls Try.prog 57 #[.slice A t.length c, .int .i64 (i : Int)] w fun e w' => e = .returned (.bool (fitB (back t i) x)) ∧ Below w.heap.size w w' := by
  rcases plyB_or (r := back t i) (x := x) with ⟨_, h1, h2⟩ | ⟨h, _⟩
  · exact rfits_in A t c i x w hT hl hc hx hch ht0 ht1 h1 h2
  · exact rfits_ply A t c i x w hT hl hx ht0 ht1 h
end Go.Proofs.Yteaclphankckiaa
