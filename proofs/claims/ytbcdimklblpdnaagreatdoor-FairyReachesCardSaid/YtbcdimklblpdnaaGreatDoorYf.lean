/- Layer 27: steps, plain; Steps and StepsOf of the reference. -/
import Derived.Test.YtbcdimklblpdnaaGreatDoorYb
import Derived.Lib.MinMax
namespace Go.Proofs.YtbcdimklblpdnaaGreatDoor
open Go Go.RowKit
set_option linter.unusedSimpArgs false
set_option linter.unusedVariables false
def upS (b : Bool) (r : Int) : Int := if b then -r else r
def absI (n : Int) : Int := max n (-n)
/-- is it a step of the atom? -/
def keepS (x : At) (b : Bool) (f r : Int) : Bool := decide (min (absI f) (absI r) = x.short) && decide (max (absI f) (absI r) = x.long) && !(decide (x.way = 1 ∧ upS b r ≤ 0) || decide (x.way = 2 ∧ 0 ≤ upS b r))
def refRow (x : At) (b : Bool) (r : Int) : Nat → List St
  | 0 => []
  | m + 1 => refRow x b r m ++ if keepS x b ((m : Int) - 7) r = true then [⟨(m : Int) - 7, r⟩] else []
def refUp (x : At) (b : Bool) : Nat → List St
  | 0 => []
  | n + 1 => refUp x b n ++ refRow x b ((n : Int) - 7) 15
/-- all steps of an atom -/
def stepsL (x : At) (b : Bool) : List St := refUp x b 15
theorem refRow_le (x : At) (b : Bool) (r : Int) : ∀ m, (refRow x b r m).length ≤ m
  | 0 => Nat.le_refl _
  | m + 1 => by
    have := refRow_le x b r m
    show (refRow x b r m ++ _).length ≤ _
    rw [List.length_append]
    split <;> simp <;> omega
theorem refUp_le (x : At) (b : Bool) : ∀ n, (refUp x b n).length ≤ n * 15
  | 0 => Nat.le_refl _
  | n + 1 => by
    have := refUp_le x b n
    have h2 := refRow_le x b ((n : Int) - 7) 15
    show (refUp x b n ++ _).length ≤ _
    rw [List.length_append]
    omega
/-- the rows so far -/
def midS (x : At) (b : Bool) (n : Nat) (r : Int) (m : Nat) : List St := refUp x b n ++ refRow x b r m
theorem midS_zero (x : At) (b : Bool) (n : Nat) (r : Int) : midS x b n r 0 = refUp x b n := List.append_nil _
theorem midS_end {x : At} {b : Bool} {n : Nat} {r : Int} (h : (n : Int) - 7 = r) : midS x b n r 15 = refUp x b (n + 1) := by subst h; rfl
theorem midS_le (x : At) (b : Bool) (n : Nat) (r : Int) (m : Nat) (h1 : (refUp x b n).length ≤ 300) (h2 : (refRow x b r m).length ≤ 300) : (midS x b n r m).length ≤ 1000 := by
  unfold midS
  rw [List.length_append]
  omega
theorem refRow_no {x : At} {b : Bool} {r : Int} {m : Nat} (h : keepS x b ((m : Int) - 7) r = false) : refRow x b r m = refRow x b r (m + 1) := by
  show _ = _ ++ _
  rw [if_neg (by rw [h]; decide), List.append_nil]
theorem refRow_yes {x : At} {b : Bool} {r : Int} {m : Nat} (h : keepS x b ((m : Int) - 7) r = true) : refRow x b r m ++ [⟨(m : Int) - 7, r⟩] = refRow x b r (m + 1) := by
  show _ = _ ++ _
  rw [if_pos h]
theorem len_app1 {α : Type} {X Y : List α} {z : α} (h : X ++ [z] = Y) : X.length + 1 = Y.length := by rw [← h, List.length_append]; rfl
theorem rsize (n : Int) (w : World) (h1 : -1000 ≤ n) (h2 : n ≤ 1000) : Calls Tryz.prog 66 #[.int .i64 n] w fun e w' => e = .returned (.int .i64 (absI n)) ∧ w = w' := by
  have hg : IntKind.i64.wrap (-n) = -n := IntWalk.i64_in _ (by omega)
  have hV : Hid (absI n = max n (-n)) := rfl
  go_enter Tryz.func66, Tryz.ntmps66
  go_wp2_with fail
  go_ret
  exact ⟨ri hV.out.symm, rfl⟩
/-- what comes back -/
structure StR (L : List St) (e : Ending) (w w' : World) : Prop where
  out : ∃ (A : Option Addr) (c : Nat), e = .returned (.slice A L.length c) ∧ RecAt sEnc 2 w' w'.heap.size A L
  below : Below w.heap.size w w'
theorem O1.drewN2 {α : Type} {f : α → List Value} {size base : Nat} {e : TypeId} {w0 w : World} {A : Option Addr} {c : Nat} {l : List α} (h : O1 f size base e w0 w A c l) (n : Nat) : O1 f size base e w0 (w.drewN n) A c l := ⟨h.own, below_drewN h.below n, h.size⟩
theorem recs_st (w : World) (x : St) (t : TypeId) : RecAt sEnc 2 (w.alloc (.cells #[.int .i64 x.files, .int .i64 x.ranks] t)) (w.alloc (.cells #[.int .i64 x.files, .int .i64 x.ranks] t)).heap.size (some ⟨w.heap.size, 0, none⟩) [x] := by
  intro _
  refine ⟨w.heap.size, 0, rfl, by simp, fun k y hk j u hu => ?_⟩
  have hk0 : k = 0 := by have := (List.getElem?_eq_some_iff.1 hk).1; simp at this; omega
  subst hk0
  obtain rfl : x = y := by simpa using hk
  rw [cell_of_row _ _ _ _ _ _ (heap_alloc_new w _)]
  match j, hu with
  | 0, hu => rw [show u = .int .i64 x.files from (Option.some.inj hu).symm]; rfl
  | 1, hu => rw [show u = .int .i64 x.ranks from (Option.some.inj hu).symm]; rfl
  | (j + 2), hu => simp [sEnc] at hu
set_option maxRecDepth 100000 in
set_option maxHeartbeats 4000000 in
theorem rsteps_yes (x : At) (w : World) : Calls Tryz.prog 35 #[aV x, .bool true] w fun e w' => StR (stepsL x true) e w w' := by
  have hX := Lib.hid (KA.new w x)
  have hb1 : Hid (Below w.heap.size w (w.alloc (.cells #[.int .i64 x.kind, .int .i64 x.short, .int .i64 x.long, .int .i64 x.most, .int .i64 x.mode, .int .i64 x.way] 26))) := (Below.refl _ _).alloc (Nat.le_refl _) _
  go_enter Tryz.func35, Tryz.ntmps35
  go_upto_region 1 with fail
  generalize w.heap.size = B0 at hX ⊢
  generalize w.alloc (.cells #[.int .i64 x.kind, .int .i64 x.short, .int .i64 x.long, .int .i64 x.most, .int .i64 x.mode, .int .i64 x.way] 26) = u at *
  have hO0 : Hid (O1 sEnc 2 u.heap.size 74 u u none 0 (refUp x true 0)) := O1.nil (Below.refl _ _) (Nat.le_refl _)
  have hn0 : (refUp x true 0).length = 0 := rfl
  go_wp2_with fail
  go_loopw [5, 6] (fun s i wr => ∃ (n : Nat) (A5 : Option Addr) (c5 : Nat), n ≤ 15 ∧ i = .int .i64 ((n : Int) - 7) ∧ s = .slice A5 (refUp x true n).length c5 ∧ Hid (O1 sEnc 2 u.heap.size 74 u wr A5 c5 (refUp x true n))) (fun _ i _ => (8 - intOf i).toNat)
  case atStart => exact ⟨0, none, 0, by omega, rfl, rfl, hO0⟩
  case round =>
    clear hO0 hn0
    obtain ⟨n, A5, c5, hn, rfl, rfl, hO⟩ := hrel
    have hlb := refUp_le x true n
    by_cases hn15 : n < 15
    rotate_left
    · obtain rfl : n = 15 := by omega
      have hfin : Hid (StR (stepsL x true) (.returned (.slice A5 (refUp x true 15).length c5)) w wr) := ⟨⟨A5, c5, rfl, hO.out.recs sEnc_len⟩, hb1.out.trans (hO.out.below.mono hb1.out.size)⟩
      go_wp2_with fail
      go_ret
      exact hfin.out
    obtain ⟨R, hR⟩ : ∃ R, (n : Int) - 7 = R := ⟨_, rfl⟩
    have hR7 : -7 ≤ R ∧ R ≤ 7 := by omega
    have hRl : (R ≤ 7) = True := eq_true (by omega)
    have hOn : Hid (O1 sEnc 2 u.heap.size 74 u wr A5 c5 (midS x true n R 0)) := by
      show O1 _ _ _ _ _ _ _ _ _
      rw [midS_zero]; exact hO.out
    have hnx : Hid (midS x true n R 15 = refUp x true (n + 1)) := midS_end hR
    have hln : (refUp x true n).length = (midS x true n R 0).length := by rw [midS_zero]
    rw [hln, hR]
    replace hR := Lib.hid hR
    have gU : IntKind.i64.wrap (-R) = -R := IntWalk.i64_in _ (by omega)
    clear hO hln
    go_wp2_with fail
    obtain ⟨wo, hwo⟩ : ∃ wo, wo = wr := ⟨_, rfl⟩
    subst hwo
    go_loopw [5, 7] (fun s i wr => ∃ (m : Nat) (A5 : Option Addr) (c5 : Nat), m ≤ 15 ∧ i = .int .i64 ((m : Int) - 7) ∧ s = .slice A5 (midS x true n R m).length c5 ∧ Hid (O1 sEnc 2 u.heap.size 74 u wr A5 c5 (midS x true n R m))) (fun _ i _ => (8 - intOf i).toNat)
    case atStart => exact ⟨0, A5, c5, by omega, rfl, rfl, hOn⟩
    case round =>
      clear hOn
      obtain ⟨m, A5, c5, hm, rfl, rfl, hO⟩ := hrel
      by_cases hm15 : m < 15
      rotate_left
      · obtain rfl : m = 15 := by omega
        rw [hnx.out] at hO ⊢
        have hRn := hR.out
        clear hnx
        go_wp2_with fail
        go_roundw
        case rel => exact ⟨n + 1, A5, c5, by omega, by rw [show ((n + 1 : Nat) : Int) - 7 = R + 1 by omega]; try go_num, rfl, hO⟩
        case measure => simp [intOf]; omega
      have hrb := refRow_le x true R m
      obtain ⟨F, hF⟩ : ∃ F, (m : Int) - 7 = F := ⟨_, rfl⟩
      have hF7 : -7 ≤ F ∧ F ≤ 7 := by omega
      have hFl : (F ≤ 7) = True := eq_true (by omega)
      have hFn : Hid (F + 1 = ((m + 1 : Nat) : Int) - 7) := by show F + 1 = _; omega
      have hno : Hid (keepS x true F R = false → midS x true n R m = midS x true n R (m + 1)) := fun h => by unfold midS; rw [refRow_no (m := m) (by rw [hF]; exact h)]
      have hyes : Hid (keepS x true F R = true → (midS x true n R m) ++ [⟨F, R⟩] = midS x true n R (m + 1)) := fun h => by unfold midS; rw [← refRow_yes (m := m) (by rw [hF]; exact h), hF, List.append_assoc]
      have hlen : (midS x true n R m).length ≤ 1000 := midS_le _ _ _ _ _ (by omega) (by omega)
      have hMe : Hid ((8 - (F + 1)).toNat < (8 - F).toNat) := by show _ < _; omega
      rw [hF]
      clear hF hrb
      obtain ⟨P, hP⟩ : ∃ P, absI F = P := ⟨_, rfl⟩
      obtain ⟨Q, hQ⟩ : ∃ Q, absI R = Q := ⟨_, rfl⟩
      have hrs1 : Hid (∀ W, Calls Tryz.prog 66 #[.int .i64 F] W fun e w' => e = .returned (.int .i64 P) ∧ W = w') := fun W => hP ▸ rsize F W (by omega) (by omega)
      have hrs2 : Hid (∀ W, Calls Tryz.prog 66 #[.int .i64 R] W fun e w' => e = .returned (.int .i64 Q) ∧ W = w') := fun W => hQ ▸ rsize R W (by omega) (by omega)
      have hke : Hid (keepS x true F R = (decide (min P Q = x.short) && decide (max P Q = x.long) && !(decide (x.way = 1 ∧ (-R) ≤ 0) || decide (x.way = 2 ∧ 0 ≤ (-R))))) := by
        show keepS x true F R = _
        unfold keepS
        rw [hP, hQ]; rfl
      obtain ⟨_, x1, x2, _, _, x5, _⟩ := hX.out.next (hO.out.below)
      clear hP hQ
      by_cases k1 : min P Q = x.short
      rotate_left
      · have q1 : (min P Q != x.short) = true := by rw [bne_iff_ne]; exact k1
        have hk : Hid (keepS x true F R = false) := by
          show keepS x true F R = false
          rw [hke.out]
          rw [decide_eq_false k1]; rfl
        have hL := hno.out hk.out
        rw [hL] at hO ⊢
        clear hk hno hyes hke hL k1
        go_upto_region 11 with fail
        go_quiet (first | (go_at_call 66; first | exact Calls.quiet_of_same ((hrs1.out _).mono fun _ _ ⟨h1, h2⟩ => ⟨h1, h2.symm⟩) | exact Calls.quiet_of_same ((hrs2.out _).mono fun _ _ ⟨h1, h2⟩ => ⟨h1, h2.symm⟩)))
        go_wp2_with fail
        go_roundw
        case rel => exact ⟨m + 1, A5, c5, by omega, by rw [← hFn.out]; try go_num, rfl, Lib.hid (hO.out.drewN2 _)⟩
        case measure => simp [intOf]; omega
      have q1 : (min P Q != x.short) = false := by rw [bne_eq_false_iff_eq]; exact k1
      by_cases k2 : max P Q = x.long
      rotate_left
      · have q2 : (max P Q != x.long) = true := by rw [bne_iff_ne]; exact k2
        have hk : Hid (keepS x true F R = false) := by
          show keepS x true F R = false
          rw [hke.out]
          rw [decide_eq_false k2, Bool.and_false]; rfl
        have hL := hno.out hk.out
        rw [hL] at hO ⊢
        clear hk hno hyes hke hL k1 k2
        go_upto_region 11 with fail
        go_quiet (first | (go_at_call 66; first | exact Calls.quiet_of_same ((hrs1.out _).mono fun _ _ ⟨h1, h2⟩ => ⟨h1, h2.symm⟩) | exact Calls.quiet_of_same ((hrs2.out _).mono fun _ _ ⟨h1, h2⟩ => ⟨h1, h2.symm⟩)))
        go_wp2_with fail
        go_roundw
        case rel => exact ⟨m + 1, A5, c5, by omega, by rw [← hFn.out]; try go_num, rfl, Lib.hid (hO.out.drewN2 _)⟩
        case measure => simp [intOf]; omega
      have q2 : (max P Q != x.long) = false := by rw [bne_eq_false_iff_eq]; exact k2
      rw [decide_eq_true k1, decide_eq_true k2] at hke
      clear k1 k2
      by_cases k3 : x.way = 1
      · have q3 : (x.way == 1) = true := by rw [beq_iff_eq]; exact k3
        have q4 : (x.way == 2) = false := by rw [beq_eq_false_iff_ne]; omega
        by_cases k4 : -R ≤ 0
        · have q5 : (-R ≤ 0) = True := eq_true k4
          have q6 : (0 ≤ R) = True := eq_true (by omega)
          have hk : Hid (keepS x true F R = false) := by
            show keepS x true F R = false
            rw [hke.out]
            rw [decide_eq_true ⟨k3, k4⟩]; rfl
          have hL := hno.out hk.out
          rw [hL] at hO ⊢
          clear hk hno hyes hke hL k3 k4
          go_upto_region 11 with fail
          go_quiet (first | (go_at_call 66; first | exact Calls.quiet_of_same ((hrs1.out _).mono fun _ _ ⟨h1, h2⟩ => ⟨h1, h2.symm⟩) | exact Calls.quiet_of_same ((hrs2.out _).mono fun _ _ ⟨h1, h2⟩ => ⟨h1, h2.symm⟩)))
          go_wp2_with fail
          go_roundw
          case rel => exact ⟨m + 1, A5, c5, by omega, by rw [← hFn.out]; try go_num, rfl, Lib.hid (hO.out.drewN2 _)⟩
          case measure => simp [intOf]; omega
        · have q5 : (-R ≤ 0) = False := eq_false k4
          have q6 : (0 ≤ R) = False := eq_false (by omega)
          have hk : Hid (keepS x true F R = true) := by
            show keepS x true F R = true
            rw [hke.out, decide_eq_false (fun h => k4 h.2), decide_eq_false (fun h => by omega)]; rfl
          have hL := Lib.hid (hyes.out hk.out)
          have hsl : (midS x true n R m).length + 1 = (midS x true n R (m + 1)).length := len_app1 hL.out
          clear hk hno hyes hke k3 k4
          generalize hel : midS x true n R m = E at *
          go_upto_region 11 with fail
          go_quiet (first | (go_at_call 66; first | exact Calls.quiet_of_same ((hrs1.out _).mono fun _ _ ⟨h1, h2⟩ => ⟨h1, h2.symm⟩) | exact Calls.quiet_of_same ((hrs2.out _).mono fun _ _ ⟨h1, h2⟩ => ⟨h1, h2.symm⟩)))
          replace hO := Lib.hid (hO.out.drewN2 nq)
          generalize World.drewN wr nq = wq at *
          clear x1 x2 x5
          obtain ⟨_, x1, x2, _, _, x5, _⟩ := hX.out.next (hO.out.below)
          go_wp2_with (at_builtin; refine wpList_append_recs stepRow sEnc_len sEnc_one rfl _ _ rfl u.heap.size A5 c5 E rfl (hO.out.alloc _).own _ 1 [(⟨F, R⟩ : St)] rfl (recs_st _ ⟨F, R⟩ _) (by simp; omega) (hO.out.alloc _).size ?_; intro A' c' w' hown hg _; rw [hL.out] at hown ⊢; have hO' := Lib.hid ((hO.out.alloc _).app hown hg); clear hown hg)
          go_roundw
          case rel => exact ⟨m + 1, A', c', by omega, by rw [← hFn.out]; try go_num, rfl, hO'⟩
          case measure => simp [intOf]; omega
      have q3 : (x.way == 1) = false := by rw [beq_eq_false_iff_ne]; exact k3
      by_cases k5 : x.way = 2
      · have q4 : (x.way == 2) = true := by rw [beq_iff_eq]; exact k5
        by_cases k4 : 0 ≤ -R
        · have q5 : (0 ≤ -R) = True := eq_true k4
          have q6 : (R ≤ 0) = True := eq_true (by omega)
          have hk : Hid (keepS x true F R = false) := by
            show keepS x true F R = false
            rw [hke.out]
            rw [decide_eq_false (fun h => k3 h.1), decide_eq_true ⟨k5, k4⟩]; rfl
          have hL := hno.out hk.out
          rw [hL] at hO ⊢
          clear hk hno hyes hke hL k3 k5 k4
          go_upto_region 11 with fail
          go_quiet (first | (go_at_call 66; first | exact Calls.quiet_of_same ((hrs1.out _).mono fun _ _ ⟨h1, h2⟩ => ⟨h1, h2.symm⟩) | exact Calls.quiet_of_same ((hrs2.out _).mono fun _ _ ⟨h1, h2⟩ => ⟨h1, h2.symm⟩)))
          go_wp2_with fail
          go_roundw
          case rel => exact ⟨m + 1, A5, c5, by omega, by rw [← hFn.out]; try go_num, rfl, Lib.hid (hO.out.drewN2 _)⟩
          case measure => simp [intOf]; omega
        · have q5 : (0 ≤ -R) = False := eq_false k4
          have q6 : (R ≤ 0) = False := eq_false (by omega)
          have hk : Hid (keepS x true F R = true) := by
            show keepS x true F R = true
            rw [hke.out, decide_eq_false (fun h => k3 h.1), decide_eq_false (fun h => k4 h.2)]; rfl
          have hL := Lib.hid (hyes.out hk.out)
          have hsl : (midS x true n R m).length + 1 = (midS x true n R (m + 1)).length := len_app1 hL.out
          clear hk hno hyes hke k3 k5 k4
          generalize hel : midS x true n R m = E at *
          go_upto_region 11 with fail
          go_quiet (first | (go_at_call 66; first | exact Calls.quiet_of_same ((hrs1.out _).mono fun _ _ ⟨h1, h2⟩ => ⟨h1, h2.symm⟩) | exact Calls.quiet_of_same ((hrs2.out _).mono fun _ _ ⟨h1, h2⟩ => ⟨h1, h2.symm⟩)))
          replace hO := Lib.hid (hO.out.drewN2 nq)
          generalize World.drewN wr nq = wq at *
          clear x1 x2 x5
          obtain ⟨_, x1, x2, _, _, x5, _⟩ := hX.out.next (hO.out.below)
          go_wp2_with (at_builtin; refine wpList_append_recs stepRow sEnc_len sEnc_one rfl _ _ rfl u.heap.size A5 c5 E rfl (hO.out.alloc _).own _ 1 [(⟨F, R⟩ : St)] rfl (recs_st _ ⟨F, R⟩ _) (by simp; omega) (hO.out.alloc _).size ?_; intro A' c' w' hown hg _; rw [hL.out] at hown ⊢; have hO' := Lib.hid ((hO.out.alloc _).app hown hg); clear hown hg)
          go_roundw
          case rel => exact ⟨m + 1, A', c', by omega, by rw [← hFn.out]; try go_num, rfl, hO'⟩
          case measure => simp [intOf]; omega
      have q4 : (x.way == 2) = false := by rw [beq_eq_false_iff_ne]; exact k5
      have hk : Hid (keepS x true F R = true) := by
        show keepS x true F R = true
        rw [hke.out, decide_eq_false (fun h => k3 h.1), decide_eq_false (fun h => k5 h.1)]; rfl
      have hL := Lib.hid (hyes.out hk.out)
      have hsl : (midS x true n R m).length + 1 = (midS x true n R (m + 1)).length := len_app1 hL.out
      clear hk hno hyes hke k3 k5
      generalize hel : midS x true n R m = E at *
      go_upto_region 11 with fail
      go_quiet (first | (go_at_call 66; first | exact Calls.quiet_of_same ((hrs1.out _).mono fun _ _ ⟨h1, h2⟩ => ⟨h1, h2.symm⟩) | exact Calls.quiet_of_same ((hrs2.out _).mono fun _ _ ⟨h1, h2⟩ => ⟨h1, h2.symm⟩)))
      replace hO := Lib.hid (hO.out.drewN2 nq)
      generalize World.drewN wr nq = wq at *
      clear x1 x2 x5
      obtain ⟨_, x1, x2, _, _, x5, _⟩ := hX.out.next (hO.out.below)
      go_wp2_with (at_builtin; refine wpList_append_recs stepRow sEnc_len sEnc_one rfl _ _ rfl u.heap.size A5 c5 E rfl (hO.out.alloc _).own _ 1 [(⟨F, R⟩ : St)] rfl (recs_st _ ⟨F, R⟩ _) (by simp; omega) (hO.out.alloc _).size ?_; intro A' c' w' hown hg _; rw [hL.out] at hown ⊢; have hO' := Lib.hid ((hO.out.alloc _).app hown hg); clear hown hg)
      go_roundw
      case rel => exact ⟨m + 1, A', c', by omega, by rw [← hFn.out]; try go_num, rfl, hO'⟩
      case measure => simp [intOf]; omega
set_option maxRecDepth 100000 in
set_option maxHeartbeats 4000000 in
theorem rsteps_no (x : At) (w : World) : Calls Tryz.prog 35 #[aV x, .bool false] w fun e w' => StR (stepsL x false) e w w' := by
  have hX := Lib.hid (KA.new w x)
  have hb1 : Hid (Below w.heap.size w (w.alloc (.cells #[.int .i64 x.kind, .int .i64 x.short, .int .i64 x.long, .int .i64 x.most, .int .i64 x.mode, .int .i64 x.way] 26))) := (Below.refl _ _).alloc (Nat.le_refl _) _
  go_enter Tryz.func35, Tryz.ntmps35
  go_upto_region 1 with fail
  generalize w.heap.size = B0 at hX ⊢
  generalize w.alloc (.cells #[.int .i64 x.kind, .int .i64 x.short, .int .i64 x.long, .int .i64 x.most, .int .i64 x.mode, .int .i64 x.way] 26) = u at *
  have hO0 : Hid (O1 sEnc 2 u.heap.size 74 u u none 0 (refUp x false 0)) := O1.nil (Below.refl _ _) (Nat.le_refl _)
  have hn0 : (refUp x false 0).length = 0 := rfl
  go_wp2_with fail
  go_loopw [5, 6] (fun s i wr => ∃ (n : Nat) (A5 : Option Addr) (c5 : Nat), n ≤ 15 ∧ i = .int .i64 ((n : Int) - 7) ∧ s = .slice A5 (refUp x false n).length c5 ∧ Hid (O1 sEnc 2 u.heap.size 74 u wr A5 c5 (refUp x false n))) (fun _ i _ => (8 - intOf i).toNat)
  case atStart => exact ⟨0, none, 0, by omega, rfl, rfl, hO0⟩
  case round =>
    clear hO0 hn0
    obtain ⟨n, A5, c5, hn, rfl, rfl, hO⟩ := hrel
    have hlb := refUp_le x false n
    by_cases hn15 : n < 15
    rotate_left
    · obtain rfl : n = 15 := by omega
      have hfin : Hid (StR (stepsL x false) (.returned (.slice A5 (refUp x false 15).length c5)) w wr) := ⟨⟨A5, c5, rfl, hO.out.recs sEnc_len⟩, hb1.out.trans (hO.out.below.mono hb1.out.size)⟩
      go_wp2_with fail
      go_ret
      exact hfin.out
    obtain ⟨R, hR⟩ : ∃ R, (n : Int) - 7 = R := ⟨_, rfl⟩
    have hR7 : -7 ≤ R ∧ R ≤ 7 := by omega
    have hRl : (R ≤ 7) = True := eq_true (by omega)
    have hOn : Hid (O1 sEnc 2 u.heap.size 74 u wr A5 c5 (midS x false n R 0)) := by
      show O1 _ _ _ _ _ _ _ _ _
      rw [midS_zero]; exact hO.out
    have hnx : Hid (midS x false n R 15 = refUp x false (n + 1)) := midS_end hR
    have hln : (refUp x false n).length = (midS x false n R 0).length := by rw [midS_zero]
    rw [hln, hR]
    replace hR := Lib.hid hR
    have gU : IntKind.i64.wrap (-R) = -R := IntWalk.i64_in _ (by omega)
    clear hO hln
    go_wp2_with fail
    obtain ⟨wo, hwo⟩ : ∃ wo, wo = wr := ⟨_, rfl⟩
    subst hwo
    go_loopw [5, 7] (fun s i wr => ∃ (m : Nat) (A5 : Option Addr) (c5 : Nat), m ≤ 15 ∧ i = .int .i64 ((m : Int) - 7) ∧ s = .slice A5 (midS x false n R m).length c5 ∧ Hid (O1 sEnc 2 u.heap.size 74 u wr A5 c5 (midS x false n R m))) (fun _ i _ => (8 - intOf i).toNat)
    case atStart => exact ⟨0, A5, c5, by omega, rfl, rfl, hOn⟩
    case round =>
      clear hOn
      obtain ⟨m, A5, c5, hm, rfl, rfl, hO⟩ := hrel
      by_cases hm15 : m < 15
      rotate_left
      · obtain rfl : m = 15 := by omega
        rw [hnx.out] at hO ⊢
        have hRn := hR.out
        clear hnx
        go_wp2_with fail
        go_roundw
        case rel => exact ⟨n + 1, A5, c5, by omega, by rw [show ((n + 1 : Nat) : Int) - 7 = R + 1 by omega]; try go_num, rfl, hO⟩
        case measure => simp [intOf]; omega
      have hrb := refRow_le x false R m
      obtain ⟨F, hF⟩ : ∃ F, (m : Int) - 7 = F := ⟨_, rfl⟩
      have hF7 : -7 ≤ F ∧ F ≤ 7 := by omega
      have hFl : (F ≤ 7) = True := eq_true (by omega)
      have hFn : Hid (F + 1 = ((m + 1 : Nat) : Int) - 7) := by show F + 1 = _; omega
      have hno : Hid (keepS x false F R = false → midS x false n R m = midS x false n R (m + 1)) := fun h => by unfold midS; rw [refRow_no (m := m) (by rw [hF]; exact h)]
      have hyes : Hid (keepS x false F R = true → (midS x false n R m) ++ [⟨F, R⟩] = midS x false n R (m + 1)) := fun h => by unfold midS; rw [← refRow_yes (m := m) (by rw [hF]; exact h), hF, List.append_assoc]
      have hlen : (midS x false n R m).length ≤ 1000 := midS_le _ _ _ _ _ (by omega) (by omega)
      have hMe : Hid ((8 - (F + 1)).toNat < (8 - F).toNat) := by show _ < _; omega
      rw [hF]
      clear hF hrb
      obtain ⟨P, hP⟩ : ∃ P, absI F = P := ⟨_, rfl⟩
      obtain ⟨Q, hQ⟩ : ∃ Q, absI R = Q := ⟨_, rfl⟩
      have hrs1 : Hid (∀ W, Calls Tryz.prog 66 #[.int .i64 F] W fun e w' => e = .returned (.int .i64 P) ∧ W = w') := fun W => hP ▸ rsize F W (by omega) (by omega)
      have hrs2 : Hid (∀ W, Calls Tryz.prog 66 #[.int .i64 R] W fun e w' => e = .returned (.int .i64 Q) ∧ W = w') := fun W => hQ ▸ rsize R W (by omega) (by omega)
      have hke : Hid (keepS x false F R = (decide (min P Q = x.short) && decide (max P Q = x.long) && !(decide (x.way = 1 ∧ R ≤ 0) || decide (x.way = 2 ∧ 0 ≤ R)))) := by
        show keepS x false F R = _
        unfold keepS
        rw [hP, hQ]; rfl
      obtain ⟨_, x1, x2, _, _, x5, _⟩ := hX.out.next (hO.out.below)
      clear hP hQ
      by_cases k1 : min P Q = x.short
      rotate_left
      · have q1 : (min P Q != x.short) = true := by rw [bne_iff_ne]; exact k1
        have hk : Hid (keepS x false F R = false) := by
          show keepS x false F R = false
          rw [hke.out]
          rw [decide_eq_false k1]; rfl
        have hL := hno.out hk.out
        rw [hL] at hO ⊢
        clear hk hno hyes hke hL k1
        go_upto_region 11 with fail
        go_quiet (first | (go_at_call 66; first | exact Calls.quiet_of_same ((hrs1.out _).mono fun _ _ ⟨h1, h2⟩ => ⟨h1, h2.symm⟩) | exact Calls.quiet_of_same ((hrs2.out _).mono fun _ _ ⟨h1, h2⟩ => ⟨h1, h2.symm⟩)))
        go_wp2_with fail
        go_roundw
        case rel => exact ⟨m + 1, A5, c5, by omega, by rw [← hFn.out]; try go_num, rfl, Lib.hid (hO.out.drewN2 _)⟩
        case measure => simp [intOf]; omega
      have q1 : (min P Q != x.short) = false := by rw [bne_eq_false_iff_eq]; exact k1
      by_cases k2 : max P Q = x.long
      rotate_left
      · have q2 : (max P Q != x.long) = true := by rw [bne_iff_ne]; exact k2
        have hk : Hid (keepS x false F R = false) := by
          show keepS x false F R = false
          rw [hke.out]
          rw [decide_eq_false k2, Bool.and_false]; rfl
        have hL := hno.out hk.out
        rw [hL] at hO ⊢
        clear hk hno hyes hke hL k1 k2
        go_upto_region 11 with fail
        go_quiet (first | (go_at_call 66; first | exact Calls.quiet_of_same ((hrs1.out _).mono fun _ _ ⟨h1, h2⟩ => ⟨h1, h2.symm⟩) | exact Calls.quiet_of_same ((hrs2.out _).mono fun _ _ ⟨h1, h2⟩ => ⟨h1, h2.symm⟩)))
        go_wp2_with fail
        go_roundw
        case rel => exact ⟨m + 1, A5, c5, by omega, by rw [← hFn.out]; try go_num, rfl, Lib.hid (hO.out.drewN2 _)⟩
        case measure => simp [intOf]; omega
      have q2 : (max P Q != x.long) = false := by rw [bne_eq_false_iff_eq]; exact k2
      rw [decide_eq_true k1, decide_eq_true k2] at hke
      clear k1 k2
      by_cases k3 : x.way = 1
      · have q3 : (x.way == 1) = true := by rw [beq_iff_eq]; exact k3
        have q4 : (x.way == 2) = false := by rw [beq_eq_false_iff_ne]; omega
        by_cases k4 : R ≤ 0
        · have q5 : (R ≤ 0) = True := eq_true k4
          have hk : Hid (keepS x false F R = false) := by
            show keepS x false F R = false
            rw [hke.out]
            rw [decide_eq_true ⟨k3, k4⟩]; rfl
          have hL := hno.out hk.out
          rw [hL] at hO ⊢
          clear hk hno hyes hke hL k3 k4
          go_upto_region 11 with fail
          go_quiet (first | (go_at_call 66; first | exact Calls.quiet_of_same ((hrs1.out _).mono fun _ _ ⟨h1, h2⟩ => ⟨h1, h2.symm⟩) | exact Calls.quiet_of_same ((hrs2.out _).mono fun _ _ ⟨h1, h2⟩ => ⟨h1, h2.symm⟩)))
          go_wp2_with fail
          go_roundw
          case rel => exact ⟨m + 1, A5, c5, by omega, by rw [← hFn.out]; try go_num, rfl, Lib.hid (hO.out.drewN2 _)⟩
          case measure => simp [intOf]; omega
        · have q5 : (R ≤ 0) = False := eq_false k4
          have hk : Hid (keepS x false F R = true) := by
            show keepS x false F R = true
            rw [hke.out, decide_eq_false (fun h => k4 h.2), decide_eq_false (fun h => by omega)]; rfl
          have hL := Lib.hid (hyes.out hk.out)
          have hsl : (midS x false n R m).length + 1 = (midS x false n R (m + 1)).length := len_app1 hL.out
          clear hk hno hyes hke k3 k4
          generalize hel : midS x false n R m = E at *
          go_upto_region 11 with fail
          go_quiet (first | (go_at_call 66; first | exact Calls.quiet_of_same ((hrs1.out _).mono fun _ _ ⟨h1, h2⟩ => ⟨h1, h2.symm⟩) | exact Calls.quiet_of_same ((hrs2.out _).mono fun _ _ ⟨h1, h2⟩ => ⟨h1, h2.symm⟩)))
          replace hO := Lib.hid (hO.out.drewN2 nq)
          generalize World.drewN wr nq = wq at *
          clear x1 x2 x5
          obtain ⟨_, x1, x2, _, _, x5, _⟩ := hX.out.next (hO.out.below)
          go_wp2_with (at_builtin; refine wpList_append_recs stepRow sEnc_len sEnc_one rfl _ _ rfl u.heap.size A5 c5 E rfl (hO.out.alloc _).own _ 1 [(⟨F, R⟩ : St)] rfl (recs_st _ ⟨F, R⟩ _) (by simp; omega) (hO.out.alloc _).size ?_; intro A' c' w' hown hg _; rw [hL.out] at hown ⊢; have hO' := Lib.hid ((hO.out.alloc _).app hown hg); clear hown hg)
          go_roundw
          case rel => exact ⟨m + 1, A', c', by omega, by rw [← hFn.out]; try go_num, rfl, hO'⟩
          case measure => simp [intOf]; omega
      have q3 : (x.way == 1) = false := by rw [beq_eq_false_iff_ne]; exact k3
      by_cases k5 : x.way = 2
      · have q4 : (x.way == 2) = true := by rw [beq_iff_eq]; exact k5
        by_cases k4 : 0 ≤ R
        · have q5 : (0 ≤ R) = True := eq_true k4
          have hk : Hid (keepS x false F R = false) := by
            show keepS x false F R = false
            rw [hke.out]
            rw [decide_eq_false (fun h => k3 h.1), decide_eq_true ⟨k5, k4⟩]; rfl
          have hL := hno.out hk.out
          rw [hL] at hO ⊢
          clear hk hno hyes hke hL k3 k5 k4
          go_upto_region 11 with fail
          go_quiet (first | (go_at_call 66; first | exact Calls.quiet_of_same ((hrs1.out _).mono fun _ _ ⟨h1, h2⟩ => ⟨h1, h2.symm⟩) | exact Calls.quiet_of_same ((hrs2.out _).mono fun _ _ ⟨h1, h2⟩ => ⟨h1, h2.symm⟩)))
          go_wp2_with fail
          go_roundw
          case rel => exact ⟨m + 1, A5, c5, by omega, by rw [← hFn.out]; try go_num, rfl, Lib.hid (hO.out.drewN2 _)⟩
          case measure => simp [intOf]; omega
        · have q5 : (0 ≤ R) = False := eq_false k4
          have hk : Hid (keepS x false F R = true) := by
            show keepS x false F R = true
            rw [hke.out, decide_eq_false (fun h => k3 h.1), decide_eq_false (fun h => k4 h.2)]; rfl
          have hL := Lib.hid (hyes.out hk.out)
          have hsl : (midS x false n R m).length + 1 = (midS x false n R (m + 1)).length := len_app1 hL.out
          clear hk hno hyes hke k3 k5 k4
          generalize hel : midS x false n R m = E at *
          go_upto_region 11 with fail
          go_quiet (first | (go_at_call 66; first | exact Calls.quiet_of_same ((hrs1.out _).mono fun _ _ ⟨h1, h2⟩ => ⟨h1, h2.symm⟩) | exact Calls.quiet_of_same ((hrs2.out _).mono fun _ _ ⟨h1, h2⟩ => ⟨h1, h2.symm⟩)))
          replace hO := Lib.hid (hO.out.drewN2 nq)
          generalize World.drewN wr nq = wq at *
          clear x1 x2 x5
          obtain ⟨_, x1, x2, _, _, x5, _⟩ := hX.out.next (hO.out.below)
          go_wp2_with (at_builtin; refine wpList_append_recs stepRow sEnc_len sEnc_one rfl _ _ rfl u.heap.size A5 c5 E rfl (hO.out.alloc _).own _ 1 [(⟨F, R⟩ : St)] rfl (recs_st _ ⟨F, R⟩ _) (by simp; omega) (hO.out.alloc _).size ?_; intro A' c' w' hown hg _; rw [hL.out] at hown ⊢; have hO' := Lib.hid ((hO.out.alloc _).app hown hg); clear hown hg)
          go_roundw
          case rel => exact ⟨m + 1, A', c', by omega, by rw [← hFn.out]; try go_num, rfl, hO'⟩
          case measure => simp [intOf]; omega
      have q4 : (x.way == 2) = false := by rw [beq_eq_false_iff_ne]; exact k5
      have hk : Hid (keepS x false F R = true) := by
        show keepS x false F R = true
        rw [hke.out, decide_eq_false (fun h => k3 h.1), decide_eq_false (fun h => k5 h.1)]; rfl
      have hL := Lib.hid (hyes.out hk.out)
      have hsl : (midS x false n R m).length + 1 = (midS x false n R (m + 1)).length := len_app1 hL.out
      clear hk hno hyes hke k3 k5
      generalize hel : midS x false n R m = E at *
      go_upto_region 11 with fail
      go_quiet (first | (go_at_call 66; first | exact Calls.quiet_of_same ((hrs1.out _).mono fun _ _ ⟨h1, h2⟩ => ⟨h1, h2.symm⟩) | exact Calls.quiet_of_same ((hrs2.out _).mono fun _ _ ⟨h1, h2⟩ => ⟨h1, h2.symm⟩)))
      replace hO := Lib.hid (hO.out.drewN2 nq)
      generalize World.drewN wr nq = wq at *
      clear x1 x2 x5
      obtain ⟨_, x1, x2, _, _, x5, _⟩ := hX.out.next (hO.out.below)
      go_wp2_with (at_builtin; refine wpList_append_recs stepRow sEnc_len sEnc_one rfl _ _ rfl u.heap.size A5 c5 E rfl (hO.out.alloc _).own _ 1 [(⟨F, R⟩ : St)] rfl (recs_st _ ⟨F, R⟩ _) (by simp; omega) (hO.out.alloc _).size ?_; intro A' c' w' hown hg _; rw [hL.out] at hown ⊢; have hO' := Lib.hid ((hO.out.alloc _).app hown hg); clear hown hg)
      go_roundw
      case rel => exact ⟨m + 1, A', c', by omega, by rw [← hFn.out]; try go_num, rfl, hO'⟩
      case measure => simp [intOf]; omega
theorem rsteps (x : At) (b : Bool) (w : World) : Calls Tryz.prog 35 #[aV x, .bool b] w fun e w' => StR (stepsL x b) e w w' := by
  cases b with
  | true => exact rsteps_yes x w
  | false => exact rsteps_no x w
end Go.Proofs.YtbcdimklblpdnaaGreatDoor
