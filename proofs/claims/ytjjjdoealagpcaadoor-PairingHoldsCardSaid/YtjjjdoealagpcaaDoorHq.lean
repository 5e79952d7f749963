/- Layer 43: which certificates are right, walked. -/
import Derived.Test.YtjjjdoealagpcaaDoorHo
import Derived.BigQuiet
namespace Go.Proofs.YtjjjdoealagpcaaDoor
open Go Go.RowKit
set_option linter.unusedSimpArgs false
set_option linter.unusedVariables false
attribute [local go_sem ↓] Go.wp_at_zero Go.wp_at_succ
/-- the elements of a set below a number -/
def elsN (s m : Nat) : List Nat := (List.range m).filter fun i => s.testBit i
def els (s m : Nat) : List Int := (elsN s m).map fun (i : Nat) => (i : Int)
theorem elsN_succ (s m : Nat) : elsN s (m + 1) = elsN s m ++ if s.testBit m = true then [m] else [] := by
  unfold elsN
  rw [List.range_succ, List.filter_append]
  by_cases h : s.testBit m = true
  · rw [if_pos h, List.filter_cons_of_pos h]; rfl
  · rw [if_neg h, List.filter_cons_of_neg h]; rfl
theorem els_no {s m : Nat} (h : s.testBit m = false) : els s m = els s (m + 1) := by
  unfold els
  rw [elsN_succ, if_neg (by rw [h]; decide), List.append_nil]
theorem els_yes {s m : Nat} (h : s.testBit m = true) : els s m ++ [(m : Int)] = els s (m + 1) := by
  unfold els
  rw [elsN_succ, if_pos h, List.map_append]
  rfl
theorem els_le (s m : Nat) : (els s m).length ≤ m := by
  unfold els elsN
  rw [List.length_map]
  have := List.length_filter_le (fun i => s.testBit i) (List.range m)
  rwa [List.length_range] at this
theorem elsN_far {s n : Nat} (h : ∀ j, n ≤ j → s.testBit j = false) : ∀ d, elsN s (n + d) = elsN s n
  | 0 => rfl
  | d + 1 => by
    show elsN s (n + d + 1) = _
    rw [elsN_succ, if_neg (by rw [h (n + d) (by omega)]; decide), List.append_nil, elsN_far h d]
theorem els_cnt {s n : Nat} (hn : n ≤ 8) (hs : s < 2 ^ n) : (els s n).length = cntE s := by
  unfold els
  rw [List.length_map]
  have h := elsN_far (s := s) (n := n) (fun j hj => Nat.testBit_lt_two_pow (Nat.lt_of_lt_of_le hs (Nat.pow_le_pow_right (by decide) hj))) (8 - n)
  rw [show n + (8 - n) = 8 by omega] at h
  rw [← h]
  rfl
theorem mem_elsN {s n j : Nat} : j ∈ elsN s n ↔ j < n ∧ s.testBit j = true := by
  unfold elsN
  rw [List.mem_filter, List.mem_range]
theorem elsN_sorted (s n : Nat) : (elsN s n).Pairwise (fun a b => a < b) := List.Pairwise.filter _ List.pairwise_lt_range
theorem elsN_lt {s n a b x y : Nat} (hab : a < b) (ha : (elsN s n)[a]? = some x) (hb : (elsN s n)[b]? = some y) : x < y := by
  obtain ⟨h1, h2⟩ := List.getElem?_eq_some_iff.1 ha
  obtain ⟨h3, h4⟩ := List.getElem?_eq_some_iff.1 hb
  have := List.pairwise_iff_getElem.1 (elsN_sorted s n) a b h1 h3 hab
  rwa [h2, h4] at this
theorem elsN_low {s n : Nat} (hs : s < 256) (h0 : s ≠ 0) (hn : n ≤ 8) (hl : s < 2 ^ n) : (elsN s n)[0]? = some (lowE s) := by
  obtain ⟨l1, l2, l3⟩ := low_in hs h0
  have hm : lowE s ∈ elsN s n := mem_elsN.2 ⟨bit_lt hl l1, l1⟩
  obtain ⟨t, ht⟩ := List.getElem?_of_mem hm
  have htl := (List.getElem?_eq_some_iff.1 ht).1
  obtain ⟨x, hx⟩ : ∃ x, (elsN s n)[0]? = some x := ⟨_, List.getElem?_eq_getElem (by omega)⟩
  obtain ⟨x1, x2⟩ := mem_elsN.1 (List.mem_of_getElem? hx)
  have h2 := l3 x (by omega) x2
  by_cases e : t = 0
  · subst e; exact ht
  · have := elsN_lt (by omega) hx ht
    omega
theorem els_at {s n q : Nat} {x : Nat} (h : (elsN s n)[q]? = some x) : (els s n)[q]? = some (x : Int) := by
  unfold els
  rw [List.getElem?_map, h]; rfl
theorem FH.lbyeC {w : World} {A : Option Addr} {l : List Ent} {c : Nat} (h : FH w A l c) (hok : ∀ x ∈ l, numOk x) {a : Nat} (ha : a < l.length) : Calls Tryd.prog 19 #[.slice A l.length c, .int .i64 (a : Int)] w fun e w' => e = .returned (.int .i64 (cst l a l.length)) ∧ Below w.heap.size w w' := by
  obtain ⟨x, hx⟩ : ∃ x, l[a]? = some x := ⟨_, List.getElem?_eq_getElem ha⟩
  rw [cst_bye hx]
  exact lbye A l c a x w h hx hok
set_option maxRecDepth 100000 in
set_option maxHeartbeats 8000000 in
theorem ct_len (A C : Option Addr) (l : List Ent) (cc : List Int) (c cq : Nat) (w : World) (hF : FH w A l c) (hv : okF l) (h7 : l.length ≤ 7) (hC : RecAt iEnc 1 w w.heap.size C cc) (hcl : cc.length ≤ 100000) (hlen : cc.length ≠ 2 ^ szE l) : Calls Tryd.prog 27 #[.slice A l.length c, .slice C cc.length cq] w fun e w' => e = .returned (.bool (certB l cc)) ∧ Below w.heap.size w w' := by
  obtain ⟨n, hn⟩ : ∃ n, szE l = n := ⟨_, rfl⟩
  have hnl : n = l.length + l.length % 2 := by rw [← hn]; rfl
  have hn8 : n ≤ 8 := by omega
  have hn2 : 2 ≤ n := by have h := hv.1; omega
  obtain ⟨N, hN⟩ : ∃ N, 2 ^ n = N := ⟨_, rfl⟩
  have hN256 : N ≤ 256 := by rw [← hN]; exact full_lt hn8
  have hN4 : 4 ≤ N := by
    have h1 : 2 ^ 2 ≤ 2 ^ n := Nat.pow_le_pow_right (show 2 > 0 by decide) hn2
    omega
  have gN : IntKind.i64.wrap (2 ^ n) = (N : Int) := by
    have e : ((2 : Int) ^ n) = (N : Int) := by rw [← hN, Int.natCast_pow]; rfl
    rw [e]; exact i64_nat (by omega)
  have n0 : (0 : Int) ≤ (n : Int) := Int.natCast_nonneg _
  have n64 : (n : Int) ≤ 64 := by omega
  have hNs : 2 ^ szE l = N := by rw [hn]; exact hN
  have s1 := tmod_two l.length
  obtain ⟨rm, hrm⟩ : ∃ rm, l.length % 2 = rm := ⟨_, rfl⟩
  have hrm2 : rm < 2 := by omega
  rw [hrm] at s1 hnl
  have s2 : IntKind.i64.wrap (rm : Int) = (rm : Int) := i64_nat (by omega)
  have s3 : IntKind.i64.wrap ((l.length : Int) + (rm : Int)) = (n : Int) := by rw [show (l.length : Int) + (rm : Int) = (n : Int) by omega]; exact i64_nat (by omega)
  have hE : Hid (certB l cc = false) := certB_no fun h => hlen h.1
  have q2 : ((cc.length : Int) != (N : Int)) = true := by rw [bne_iff_ne]; omega
  clear hF hC hv hN hn hNs hlen hnl hrm
  go_enter Tryd.func27, Tryd.ntmps27
  go_wp2_with fail
  go_ret
  exact ⟨PC.rb hE.out.symm, Below.refl _ _⟩
set_option maxRecDepth 100000 in
set_option maxHeartbeats 8000000 in
theorem ct_zero (A C : Option Addr) (l : List Ent) (cc : List Int) (c cq : Nat) (w : World) (hF : FH w A l c) (hv : okF l) (h7 : l.length ≤ 7) (hC : RecAt iEnc 1 w w.heap.size C cc) (hcl : cc.length ≤ 100000) (hlen : cc.length = 2 ^ szE l) (hz : oE cc 0 ≠ 0) : Calls Tryd.prog 27 #[.slice A l.length c, .slice C cc.length cq] w fun e w' => e = .returned (.bool (certB l cc)) ∧ Below w.heap.size w w' := by
  obtain ⟨n, hn⟩ : ∃ n, szE l = n := ⟨_, rfl⟩
  have hnl : n = l.length + l.length % 2 := by rw [← hn]; rfl
  have hn8 : n ≤ 8 := by omega
  have hn2 : 2 ≤ n := by have h := hv.1; omega
  obtain ⟨N, hN⟩ : ∃ N, 2 ^ n = N := ⟨_, rfl⟩
  have hN256 : N ≤ 256 := by rw [← hN]; exact full_lt hn8
  have hN4 : 4 ≤ N := by
    have h1 : 2 ^ 2 ≤ 2 ^ n := Nat.pow_le_pow_right (show 2 > 0 by decide) hn2
    omega
  have gN : IntKind.i64.wrap (2 ^ n) = (N : Int) := by
    have e : ((2 : Int) ^ n) = (N : Int) := by rw [← hN, Int.natCast_pow]; rfl
    rw [e]; exact i64_nat (by omega)
  have n0 : (0 : Int) ≤ (n : Int) := Int.natCast_nonneg _
  have n64 : (n : Int) ≤ 64 := by omega
  have hNs : 2 ^ szE l = N := by rw [hn]; exact hN
  have s1 := tmod_two l.length
  obtain ⟨rm, hrm⟩ : ∃ rm, l.length % 2 = rm := ⟨_, rfl⟩
  have hrm2 : rm < 2 := by omega
  rw [hrm] at s1 hnl
  have s2 : IntKind.i64.wrap (rm : Int) = (rm : Int) := i64_nat (by omega)
  have s3 : IntKind.i64.wrap ((l.length : Int) + (rm : Int)) = (n : Int) := by rw [show (l.length : Int) + (rm : Int) = (n : Int) by omega]; exact i64_nat (by omega)
  have hE : Hid (certB l cc = false) := certB_no fun h => hz h.2.1
  rw [hNs] at hlen
  obtain ⟨bc, oc, rfl, hbcl, hcc⟩ := hC (by omega)
  have hcH : Hid (∀ (k : Nat) (x : Int), cc[k]? = some x → w.cell? ⟨bc, oc + k, none⟩ = some (.int .i64 x)) := fun k x hx => by have := hcc k x hx 0 _ rfl; rwa [Nat.mul_one] at this
  have hbc : Hid (bc < w.heap.size) := hbcl
  have q2 : ((N : Int) != (N : Int)) = false := bne_self_eq_false _
  obtain ⟨y0, hy0⟩ : ∃ y, cc[0]? = some y := ⟨_, List.getElem?_eq_getElem (by omega)⟩
  have z0 : w.cell? ⟨bc, oc, none⟩ = some (.int .i64 y0) := hcH.out 0 y0 hy0
  have hN0 : (0 : Int) < (N : Int) := by omega
  have hN0n : 0 < N := by omega
  rw [hlen]
  have q3 : (y0 != 0) = true := by rw [bne_iff_ne]; rw [oE_eq hy0] at hz; exact hz
  clear hF hC hv hN hn hNs hlen hy0 hcc hbcl hz hnl hrm
  go_enter Tryd.func27, Tryd.ntmps27
  go_wp2_with fail
  go_ret
  exact ⟨PC.rb hE.out.symm, Below.refl _ _⟩
set_option maxRecDepth 100000 in
set_option maxHeartbeats 8000000 in
theorem ct_main (A C : Option Addr) (l : List Ent) (cc : List Int) (c cq : Nat) (w : World) (hF : FH w A l c) (hv : okF l) (h7 : l.length ≤ 7) (hC : RecAt iEnc 1 w w.heap.size C cc) (hcl : cc.length ≤ 100000) (hlen : cc.length = 2 ^ szE l) (hz : oE cc 0 = 0) : Calls Tryd.prog 27 #[.slice A l.length c, .slice C cc.length cq] w fun e w' => e = .returned (.bool (certB l cc)) ∧ Below w.heap.size w w' := by
  obtain ⟨n, hn⟩ : ∃ n, szE l = n := ⟨_, rfl⟩
  have hnl : n = l.length + l.length % 2 := by rw [← hn]; rfl
  have hn8 : n ≤ 8 := by omega
  have hn2 : 2 ≤ n := by have h := hv.1; omega
  obtain ⟨N, hN⟩ : ∃ N, 2 ^ n = N := ⟨_, rfl⟩
  have hN256 : N ≤ 256 := by rw [← hN]; exact full_lt hn8
  have hN4 : 4 ≤ N := by
    have h1 : 2 ^ 2 ≤ 2 ^ n := Nat.pow_le_pow_right (show 2 > 0 by decide) hn2
    omega
  have gN : IntKind.i64.wrap (2 ^ n) = (N : Int) := by
    have e : ((2 : Int) ^ n) = (N : Int) := by rw [← hN, Int.natCast_pow]; rfl
    rw [e]; exact i64_nat (by omega)
  have n0 : (0 : Int) ≤ (n : Int) := Int.natCast_nonneg _
  have n64 : (n : Int) ≤ 64 := by omega
  have hNs : 2 ^ szE l = N := by rw [hn]; exact hN
  have s1 := tmod_two l.length
  obtain ⟨rm, hrm⟩ : ∃ rm, l.length % 2 = rm := ⟨_, rfl⟩
  have hrm2 : rm < 2 := by omega
  rw [hrm] at s1 hnl
  have s2 : IntKind.i64.wrap (rm : Int) = (rm : Int) := i64_nat (by omega)
  have s3 : IntKind.i64.wrap ((l.length : Int) + (rm : Int)) = (n : Int) := by rw [show (l.length : Int) + (rm : Int) = (n : Int) by omega]; exact i64_nat (by omega)
  have hGood : Hid (rowsK l cc N → certB l cc = true) := fun h => certB_yes ⟨hlen, hz, by rw [hNs]; exact h⟩
  have hBad : Hid (∀ s, s < N → ¬ rowK l cc s → certB l cc = false) := fun s hs h => certB_no fun hh => h (hh.2.2 s (by rw [hNs]; exact hs))
  rw [hNs] at hlen
  obtain ⟨bc, oc, rfl, hbcl, hcc⟩ := hC (by omega)
  have hcH : Hid (∀ (k : Nat) (x : Int), cc[k]? = some x → w.cell? ⟨bc, oc + k, none⟩ = some (.int .i64 x)) := fun k x hx => by have := hcc k x hx 0 _ rfl; rwa [Nat.mul_one] at this
  have hbc : Hid (bc < w.heap.size) := hbcl
  have q2 : ((N : Int) != (N : Int)) = false := bne_self_eq_false _
  obtain ⟨y0, hy0⟩ : ∃ y, cc[0]? = some y := ⟨_, List.getElem?_eq_getElem (by omega)⟩
  have z0 : w.cell? ⟨bc, oc, none⟩ = some (.int .i64 y0) := hcH.out 0 y0 hy0
  have hN0 : (0 : Int) < (N : Int) := by omega
  have hN0n : 0 < N := by omega
  rw [hlen]
  have q3 : (y0 != 0) = false := by rw [bne_eq_false_iff_eq]; rw [oE_eq hy0] at hz; exact hz
  have hFH := Lib.hid hF
  have hvH := Lib.hid hv
  have hnH := Lib.hid hn
  have hlH := Lib.hid hlen
  have hNH := Lib.hid hN
  have hnlH := Lib.hid hnl
  have hrmH := Lib.hid hrm
  clear hF hC hv hN hn hNs hlen hy0 hcc hbcl hz hnl hrm
  go_enter Tryd.func27, Tryd.ntmps27
  go_wp2_with fail
  clear z0 q2 q3 s1 s2 s3 gN
  go_loopw [6] (fun i wr => ∃ k : Nat, k ≤ N ∧ i = .int .i64 k ∧ Hid (rowsK l cc k) ∧ Hid (Below w.heap.size w wr)) (fun i _ => N - (intOf i).toNat)
  case atStart => exact ⟨0, by omega, rfl, fun s hs => absurd hs (Nat.not_lt_zero _), Below.refl _ _⟩
  case round =>
    obtain ⟨k, hk, rfl, hrows, hB⟩ := hrel
    have hk0 : (0 : Int) ≤ (k : Int) := Int.natCast_nonneg _
    by_cases hkn : k < N
    rotate_left
    · obtain rfl : k = N := by omega
      have hE : Hid (certB l cc = true) := hGood.out hrows.out
      go_wp2_with fail
      go_ret
      exact ⟨PC.rb hE.out.symm, hB.out⟩
    have hkI : (k : Int) < (N : Int) := by omega
    obtain ⟨x, hx⟩ : ∃ x, cc[k]? = some x := ⟨_, List.getElem?_eq_getElem (by have := hlH.out; omega)⟩
    have hxe := oE_eq hx
    have e0 := (hB.out.cell (p := ⟨bc, oc + k, none⟩) hbc.out).trans (hcH.out k x hx)
    replace hx := Lib.hid hx
    by_cases x1 : x < -1
    · have hE : Hid (certB l cc = false) := hBad.out k hkn (fun h => by have := h.1.1; rw [hxe] at this; omega)
      clear hxe
      go_wp2_with fail
      go_ret
      exact ⟨PC.rb hE.out.symm, hB.out⟩
    by_cases x2 : 1099511627776 < x
    · have hE : Hid (certB l cc = false) := hBad.out k hkn (fun h => by have := h.1.2; rw [hxe] at this; omega)
      clear hxe
      go_wp2_with fail
      go_ret
      exact ⟨PC.rb hE.out.symm, hB.out⟩
    have hin : Hid (inK cc k) := by show _ ≤ _ ∧ _ ≤ _; rw [hxe]; omega
    have hxb : -1 ≤ x ∧ x ≤ 1099511627776 := by omega
    have hOn : Hid (O1 iEnc 1 wr.heap.size 3 wr wr none 0 (els k 0)) := O1.nil (Below.refl _ _) (Nat.le_refl _)
    have hel0 : (els k 0).length = 0 := rfl
    go_wp2_with fail
    clear e0
    obtain ⟨wo, hwo⟩ : ∃ wo, wo = wr := ⟨_, rfl⟩
    subst hwo
    go_loopw [7, 8] (fun a i wr => ∃ (m : Nat) (A7 : Option Addr) (c7 : Nat), m ≤ n ∧ i = .int .i64 m ∧ a = .slice A7 (els k m).length c7 ∧ Hid (O1 iEnc 1 wo.heap.size 3 wo wr A7 c7 (els k m))) (fun _ i _ => n - (intOf i).toNat)
    case atStart => exact ⟨0, none, 0, by omega, rfl, rfl, hOn⟩
    case round =>
      clear hOn hel0
      obtain ⟨m, A7, c7, hm, rfl, rfl, hO⟩ := hrel
      have hm0 : (0 : Int) ≤ (m : Int) := Int.natCast_nonneg _
      have hlb := els_le k m
      by_cases hmn : m < n
      · have hmI : (m : Int) < (n : Int) := by omega
        have hm64 : (m : Int) ≤ 64 := by omega
        have hdp := div_pow k m
        have hbt := bit_of k m
        obtain ⟨q, hq⟩ : ∃ q, k / 2 ^ m = q := ⟨_, rfl⟩
        have hqs : q ≤ k := by rw [← hq]; exact Nat.div_le_self _ _
        rw [hq] at hdp hbt
        have hba := bit_and q (by omega)
        clear hq
        by_cases hq1 : q % 2 = 1
        · rw [hq1] at hba
          have hsu := Lib.hid (els_yes (s := k) (m := m) (by rw [hbt]; exact decide_eq_true hq1))
          have hsl : (els k m).length + 1 = (els k (m + 1)).length := by rw [← hsu.out, List.length_append]; rfl
          clear hbt hq1 hxe
          generalize hel : els k m = E at *
          go_wp2_with (at_builtin; refine wpList_append_recs intRow iEnc_len iEnc_one rfl _ _ rfl wo.heap.size A7 c7 E rfl (hO.out.alloc _).own _ 1 [(m : Int)] rfl (recs_one (fun _ => rfl) _ _ _) (by simp; omega) (hO.out.alloc _).size ?_; intro A' c' w' hown hg _; rw [hsu.out] at hown ⊢; have hO' := Lib.hid ((hO.out.alloc _).app hown hg); clear hown hg)
          go_roundw
          case rel => exact ⟨m + 1, A', c', by omega, by go_num, rfl, hO'⟩
          case measure => simp [intOf]; omega
        · have hq0 : q % 2 = 0 := by omega
          rw [hq0] at hba
          have hsu := els_no (s := k) (m := m) (by rw [hbt]; exact decide_eq_false hq1)
          rw [hsu] at hO ⊢
          clear hbt hq1 hxe hsu
          go_wp2_with fail
          go_roundw
          case rel => exact ⟨m + 1, A7, c7, by omega, by go_num, rfl, hO⟩
          case measure => simp [intOf]; omega
      obtain rfl : m = n := by omega
      have hcnt := els_cnt (s := k) hn8 (by rw [hNH.out]; exact hkn)
      obtain ⟨L, hL⟩ : ∃ L, (els k m).length = L := ⟨_, rfl⟩
      have hLH := Lib.hid hL
      rw [hL] at hcnt hlb ⊢
      have hBw : Hid (Below w.heap.size w wr) := hB.out.trans (hO.out.below.mono hB.out.size)
      have hR := Lib.hid (hO.out.recs iEnc_len)
      have htm := tmod_two L
      have hwm : IntKind.i64.wrap ((L % 2 : Nat) : Int) = ((L % 2 : Nat) : Int) := IntWalk.i64_in _ (by omega)
      clear hL hO hB
      by_cases hodd : L % 2 = 1
      · rw [hodd] at htm hwm
        have hnew : Hid (rowsK l cc (k + 1)) := hrows.out.succ ⟨hin.out, fun _ h => by omega⟩
        clear hodd hcnt hxe
        go_wp2_with fail
        go_roundw
        case rel => exact ⟨k + 1, by omega, by go_num, hnew, hBw⟩
        case measure => simp [intOf]; omega
      have hev : L % 2 = 0 := by omega
      rw [hev] at htm hwm
      by_cases hz0 : k = 0
      · have hL0 : L = 0 := by rw [hcnt, hz0]; rfl
        have hnew : Hid (rowsK l cc (k + 1)) := hrows.out.succ ⟨hin.out, fun h => absurd hz0 h⟩
        subst hL0
        clear hodd hcnt hxe hz0 hev
        go_wp2_with fail
        go_loopw [9] (fun i wr => i = .int .i64 1 ∧ Hid (Below w.heap.size w wr)) (fun i _ => 0)
        case atStart => exact ⟨rfl, hBw⟩
        case round =>
          clear hBw
          obtain ⟨rfl, hBw⟩ := hrel
          go_wp2_with fail
          go_roundw
          case rel => exact ⟨k + 1, by omega, by go_num, hnew, hBw⟩
          case measure => simp [intOf]; omega
      obtain ⟨l1, l2, l3⟩ := low_in (show k < 256 by omega) hz0
      have hkm : k < 2 ^ m := by rw [hNH.out]; exact hkn
      have hlo := Lib.hid (elsN_low (show k < 256 by omega) hz0 hn8 hkm)
      have hlen2 : lowE k < l.length := low_len (len := l.length) (s := k) (by omega) (by have h2 := hnlH.out; rw [← hrmH.out] at h2; rw [← h2]; exact hkm) (by omega) hz0 (by omega)
      have hRow : Hid ((∀ j, lowE k < j → j < m → pairK l cc k j) → rowsK l cc (k + 1)) := fun h => hrows.out.succ ⟨hin.out, fun _ _ j h1 h2 => h j h1 (by rw [← hnH.out]; exact h2)⟩
      have hBadj : Hid (∀ j, lowE k < j → j < m → ¬ pairK l cc k j → certB l cc = false) := fun j h1 h2 h3 => hBad.out k hkn (fun h => h3 (h.2 hz0 (by omega) j h1 (by rw [hnH.out]; exact h2)))
      have hpk : Hid (∀ j, pairK l cc k j ↔ (k.testBit j = true → cst l (lowE k) j ≠ -1 → oE cc (restN k (lowE k) j) ≠ -1 → x ≠ -1 ∧ x ≤ oE cc (restN k (lowE k) j) + cst l (lowE k) j)) := fun j => by unfold pairK; rw [hxe]
      have l1H := Lib.hid l1
      have hL2 : 0 < L := by
        have h1 := (List.getElem?_eq_some_iff.1 hlo.out).1
        have h2 := hLH.out
        unfold els at h2
        rw [List.length_map] at h2
        omega
      clear hodd hcnt hxe hz0 hev l1 l3
      generalize lowE k = i at *
      go_wp2_with fail
      clear htm hwm
      obtain ⟨wu, hwu⟩ : ∃ wu, wu = wr := ⟨_, rfl⟩
      subst hwu
      go_loopw [9] (fun t wr => ∃ q : Nat, 1 ≤ q ∧ q ≤ L ∧ t = .int .i64 (q : Int) ∧ Hid (∀ (t j : Nat), 1 ≤ t → t < q → (elsN k m)[t]? = some j → pairK l cc k j) ∧ Hid (Below wu.heap.size wu wr)) (fun t _ => L - (intOf t).toNat)
      case atStart => exact ⟨1, by omega, by omega, rfl, fun t j h1 h2 => by omega, Below.refl _ _⟩
      case round =>
        obtain ⟨q, hq1, hqL, rfl, hps, hb⟩ := hrel
        have hq0 : (0 : Int) ≤ (q : Int) := Int.natCast_nonneg _
        have hB := Lib.hid (hBw.out.trans (hb.out.mono hBw.out.size))
        by_cases hqn : q < L
        rotate_left
        · have hnew : Hid (rowsK l cc (k + 1)) := hRow.out (fun j h1 h2 => by
            cases hbj : k.testBit j with
            | false => exact (hpk.out j).2 fun h => by rw [hbj] at h; cases h
            | true =>
              obtain ⟨t, ht⟩ := List.getElem?_of_mem (mem_elsN.2 ⟨h2, hbj⟩)
              have htl := (List.getElem?_eq_some_iff.1 ht).1
              have h3 := hLH.out
              unfold els at h3
              rw [List.length_map] at h3
              refine hps.out t j ?_ (by omega) ht
              apply Nat.lt_of_not_le
              intro h4
              obtain rfl : t = 0 := by omega
              have := Option.some.inj (hlo.out.symm.trans ht)
              omega)
          go_wp2_with fail
          go_roundw
          case rel => exact ⟨k + 1, by omega, by go_num, hnew, hB⟩
          case measure => simp [intOf]; omega
        have hqI : (q : Int) < (L : Int) := by omega
        obtain ⟨J, hJ⟩ : ∃ J, (elsN k m)[q]? = some J := ⟨_, List.getElem?_eq_getElem (by have h3 := hLH.out; unfold els at h3; rw [List.length_map] at h3; omega)⟩
        have hiJ : i < J := elsN_lt (by omega) hlo.out hJ
        obtain ⟨hJm, bJ⟩ := mem_elsN.1 (List.mem_of_getElem? hJ)
        obtain ⟨ba, oa, hAa, hal, ea⟩ := rec1 (recs_next hR.out hb.out) (els_at hlo.out)
        obtain ⟨ba2, oa2, hAa2, hal2, ec⟩ := rec1 (recs_next hR.out hb.out) (els_at hJ)
        rw [hAa] at hAa2
        simp only [Option.some.injEq, Addr.mk.injEq, and_true] at hAa2
        obtain ⟨rfl, rfl⟩ := hAa2
        rw [Nat.add_zero] at ea
        have hstep : Hid (pairK l cc k J → ∀ (t j : Nat), 1 ≤ t → t < q + 1 → (elsN k m)[t]? = some j → pairK l cc k j) := fun h t j h1 h2 h3 => by
          by_cases e : t = q
          · subst e
            rw [← Option.some.inj (hJ.symm.trans h3)]; exact h
          · exact hps.out t j h1 (by omega) h3
        have hJ0 : (0 : Int) ≤ (J : Int) := Int.natCast_nonneg _
        have i0 : (0 : Int) ≤ (i : Int) := Int.natCast_nonneg _
        have i1 : (i : Int) ≤ 64 := by omega
        have hJ64 : (J : Int) ≤ 64 := by omega
        have hL0I : (0 : Int) < (L : Int) := by omega
        have hL0n : 0 < L := by omega
        have hkp := Lib.hid (hpk.out J)
        have hcb := cst_bd hvH.out.num i J
        obtain ⟨r1, r2, _, r4⟩ := rest_eq (show k < 256 by omega) (by omega) (show J < 8 by omega) (by omega) l1H.out bJ
        obtain ⟨R2, hRe⟩ : ∃ R, restN k i J = R := ⟨_, rfl⟩
        have hRd : R2 = k - 2 ^ i - 2 ^ J := by rw [← hRe]; rfl
        rw [hRe] at r2
        obtain ⟨x3, hx3⟩ : ∃ x, cc[R2]? = some x := ⟨_, List.getElem?_eq_getElem (by have := hlH.out; omega)⟩
        have hx3b : -1 ≤ x3 ∧ x3 ≤ 1099511627776 := by
          have h1 := (hrows.out R2 r2).1
          unfold inK at h1
          rwa [oE_eq hx3] at h1
        rw [hRe, oE_eq hx3] at hkp
        have hcR : Hid (∀ W, Below w.heap.size w W → W.cell? ⟨bc, oc + R2, none⟩ = some (.int .i64 x3)) := fun W h => (h.cell (p := ⟨bc, oc + R2, none⟩) hbc.out).trans (hcH.out R2 x3 hx3)
        have hck : Hid (∀ W, Below w.heap.size w W → W.cell? ⟨bc, oc + k, none⟩ = some (.int .i64 x)) := fun W h => (h.cell (p := ⟨bc, oc + k, none⟩) hbc.out).trans (hcH.out k x hx.out)
        obtain ⟨Kc, hKc⟩ : ∃ Kc, cst l i J = Kc := ⟨_, rfl⟩
        rw [hKc] at hkp hcb
        have z3 := Nat.two_pow_pos i
        have z4 := Nat.two_pow_pos J
        obtain ⟨p, hp⟩ : ∃ p, 2 ^ i = p := ⟨_, rfl⟩
        obtain ⟨q2, hq2⟩ : ∃ q, 2 ^ J = q := ⟨_, rfl⟩
        rw [hp, hq2] at hRd r4
        have p1 : p ≤ k := by omega
        have p2 : q2 ≤ k := by omega
        have g1 : IntKind.i64.wrap (2 ^ i) = (p : Int) := by
          have e : ((2 : Int) ^ i) = (p : Int) := by rw [← hp, Int.natCast_pow]; rfl
          rw [e]; exact i64_nat (by omega)
        have g2 : IntKind.i64.wrap (2 ^ J) = (q2 : Int) := by
          have e : ((2 : Int) ^ J) = (q2 : Int) := by rw [← hq2, Int.natCast_pow]; rfl
          rw [e]; exact i64_nat (by omega)
        obtain ⟨d, hd⟩ : ∃ d, k - p = d := ⟨_, rfl⟩
        have g3 : IntKind.i64.wrap ((k : Int) - (p : Int)) = (d : Int) := by rw [show (k : Int) - (p : Int) = (d : Int) by omega]; exact i64_nat (by omega)
        have g4 : IntKind.i64.wrap ((d : Int) - (q2 : Int)) = (R2 : Int) := by rw [show (d : Int) - (q2 : Int) = (R2 : Int) by omega]; exact i64_nat (by omega)
        have R0 : (0 : Int) ≤ (R2 : Int) := Int.natCast_nonneg _
        have R1 : (R2 : Int) < (N : Int) := by omega
        have g5 : IntKind.i64.wrap (x3 + Kc) = x3 + Kc := IntWalk.i64_in _ (by omega)
        replace hKc := Lib.hid hKc
        replace hJ := Lib.hid hJ
        have hBdm := Lib.hid (hBadj.out J hiJ hJm)
        clear hp hq2 r2 r4 hRe z3 z4 hx3 hd p1 p2 hRd r1 hal hal2
        rw [hAa]
        have hAaH := Lib.hid hAa
        clear hAa
        go_upto_region 19 with fail
        go_quiet (fail)
        clear ea ec
        by_cases hJl : J = l.length
        · have q5 : ((J : Int) == (l.length : Int)) = true := by rw [beq_iff_eq]; omega
          have hcb0 : Hid (∀ W, Below w.heap.size w W → Calls Tryd.prog 19 #[.slice A l.length c, .int .i64 (i : Int)] W fun e w' => e = .returned (.int .i64 Kc) ∧ Below W.heap.size W w') := fun W h => by
            have h1 := (hFH.out.next h).lbyeC hvH.out.num hlen2
            rw [← hJl, hKc.out] at h1
            rw [← hJl]
            exact h1
          clear hJl
          go_wp2_with fail
          go_at_call 19
          refine (hcb0.out _ (by first | exact hB.out | exact below_drewN hB.out _)).mono ?_
          rintro e w5 ⟨rfl, hbn⟩
          have hb5 : Hid (Below wu.heap.size wu w5) := by first | exact hb.out.trans (hbn.mono hb.out.size) | exact (below_drewN hb.out _).trans (hbn.mono hb.out.size)
          have hB5 := Lib.hid (hBw.out.trans (hb5.out.mono hBw.out.size))
          clear hbn hcb0 q5
          have e1 := hcR.out _ hB5.out
          have e2 := hck.out _ hB5.out
          go_upto_region 24 with fail
          go_quiet (fail)
          clear e1 g1 g2 g3 g4
          by_cases m1 : Kc = -1
          · have k1 : (0 ≤ Kc) = False := eq_false (by omega)
            have hnew := Lib.hid (hstep.out (hkp.out.2 fun _ h => absurd m1 h))
            clear m1 hcb
            go_wp2_with fail
            go_roundw
            case rel => exact ⟨q + 1, by omega, by omega, by go_num, hnew, by first | exact hb5 | exact Lib.hid (below_drewN hb5.out _)⟩
            case measure => simp [intOf]; omega
          have k1 : (0 ≤ Kc) = True := eq_true (by omega)
          by_cases m2 : x3 = -1
          · have k2 : (0 ≤ x3) = False := eq_false (by omega)
            have hnew := Lib.hid (hstep.out (hkp.out.2 fun _ _ h => absurd m2 h))
            clear m1 m2 hcb hx3b
            go_wp2_with fail
            go_roundw
            case rel => exact ⟨q + 1, by omega, by omega, by go_num, hnew, by first | exact hb5 | exact Lib.hid (below_drewN hb5.out _)⟩
            case measure => simp [intOf]; omega
          have k2 : (0 ≤ x3) = True := eq_true (by omega)
          by_cases m3 : x < 0
          · have hE : Hid (certB l cc = false) := hBdm.out (fun h => by have := (hkp.out.1 h bJ m1 m2).1; omega)
            clear m1 m2 hcb hx3b hxb
            go_wp2_with fail
            go_ret
            exact ⟨PC.rb hE.out.symm, by first | exact hB5.out | exact below_drewN hB5.out _⟩
          by_cases m4 : x3 + Kc < x
          · have hE : Hid (certB l cc = false) := hBdm.out (fun h => by have := (hkp.out.1 h bJ m1 m2).2; omega)
            clear m1 m2 hcb hx3b hxb
            go_wp2_with fail
            go_ret
            exact ⟨PC.rb hE.out.symm, by first | exact hB5.out | exact below_drewN hB5.out _⟩
          have hnew := Lib.hid (hstep.out (hkp.out.2 fun _ _ _ => ⟨by omega, by omega⟩))
          clear m1 m2 hcb hx3b hxb
          go_wp2_with fail
          go_roundw
          case rel => exact ⟨q + 1, by omega, by omega, by go_num, hnew, by first | exact hb5 | exact Lib.hid (below_drewN hb5.out _)⟩
          case measure => simp [intOf]; omega
        · have q5 : ((J : Int) == (l.length : Int)) = false := by rw [beq_eq_false_iff_ne]; omega
          have hcb0 : Hid (∀ W, Below w.heap.size w W → Calls Tryd.prog 20 #[.slice A l.length c, .int .i64 (i : Int), .int .i64 (J : Int)] W fun e w' => e = .returned (.tuple #[.int .i64 (whL l i J), .int .i64 Kc]) ∧ Below W.heap.size W w') := fun W h => by
            have hJl2 : J < l.length := by have := hnlH.out; have := hrmH.out; omega
            have h1 := (hFH.out.next h).lpair hvH.out.num (List.getElem?_eq_getElem hlen2) (List.getElem?_eq_getElem hJl2)
            rwa [hKc.out] at h1
          clear hJl
          go_wp2_with fail
          go_at_call 20
          refine (hcb0.out _ (by first | exact hB.out | exact below_drewN hB.out _)).mono ?_
          rintro e w5 ⟨rfl, hbn⟩
          have hb5 : Hid (Below wu.heap.size wu w5) := by first | exact hb.out.trans (hbn.mono hb.out.size) | exact (below_drewN hb.out _).trans (hbn.mono hb.out.size)
          have hB5 := Lib.hid (hBw.out.trans (hb5.out.mono hBw.out.size))
          clear hbn hcb0 q5
          have e1 := hcR.out _ hB5.out
          have e2 := hck.out _ hB5.out
          go_upto_region 24 with fail
          go_quiet (fail)
          clear e1 g1 g2 g3 g4
          by_cases m1 : Kc = -1
          · have k1 : (0 ≤ Kc) = False := eq_false (by omega)
            have hnew := Lib.hid (hstep.out (hkp.out.2 fun _ h => absurd m1 h))
            clear m1 hcb
            go_wp2_with fail
            go_roundw
            case rel => exact ⟨q + 1, by omega, by omega, by go_num, hnew, by first | exact hb5 | exact Lib.hid (below_drewN hb5.out _)⟩
            case measure => simp [intOf]; omega
          have k1 : (0 ≤ Kc) = True := eq_true (by omega)
          by_cases m2 : x3 = -1
          · have k2 : (0 ≤ x3) = False := eq_false (by omega)
            have hnew := Lib.hid (hstep.out (hkp.out.2 fun _ _ h => absurd m2 h))
            clear m1 m2 hcb hx3b
            go_wp2_with fail
            go_roundw
            case rel => exact ⟨q + 1, by omega, by omega, by go_num, hnew, by first | exact hb5 | exact Lib.hid (below_drewN hb5.out _)⟩
            case measure => simp [intOf]; omega
          have k2 : (0 ≤ x3) = True := eq_true (by omega)
          by_cases m3 : x < 0
          · have hE : Hid (certB l cc = false) := hBdm.out (fun h => by have := (hkp.out.1 h bJ m1 m2).1; omega)
            clear m1 m2 hcb hx3b hxb
            go_wp2_with fail
            go_ret
            exact ⟨PC.rb hE.out.symm, by first | exact hB5.out | exact below_drewN hB5.out _⟩
          by_cases m4 : x3 + Kc < x
          · have hE : Hid (certB l cc = false) := hBdm.out (fun h => by have := (hkp.out.1 h bJ m1 m2).2; omega)
            clear m1 m2 hcb hx3b hxb
            go_wp2_with fail
            go_ret
            exact ⟨PC.rb hE.out.symm, by first | exact hB5.out | exact below_drewN hB5.out _⟩
          have hnew := Lib.hid (hstep.out (hkp.out.2 fun _ _ _ => ⟨by omega, by omega⟩))
          clear m1 m2 hcb hx3b hxb
          go_wp2_with fail
          go_roundw
          case rel => exact ⟨q + 1, by omega, by omega, by go_num, hnew, by first | exact hb5 | exact Lib.hid (below_drewN hb5.out _)⟩
          case measure => simp [intOf]; omega
set_option maxRecDepth 100000 in
theorem lcert (A C : Option Addr) (l : List Ent) (cc : List Int) (c cq : Nat) (w : World) (hF : FH w A l c) (hv : okF l) (h7 : l.length ≤ 7) (hC : RecAt iEnc 1 w w.heap.size C cc) (hcl : cc.length ≤ 100000)  : Calls Tryd.prog 27 #[.slice A l.length c, .slice C cc.length cq] w fun e w' => e = .returned (.bool (certB l cc)) ∧ Below w.heap.size w w' := by
  by_cases hlen : cc.length = 2 ^ szE l
  rotate_left
  · exact ct_len A C l cc c cq w hF hv h7 hC hcl hlen
  by_cases hz : oE cc 0 = 0
  · exact ct_main A C l cc c cq w hF hv h7 hC hcl hlen hz
  · exact ct_zero A C l cc c cq w hF hv h7 hC hcl hlen hz
end Go.Proofs.YtjjjdoealagpcaaDoor
