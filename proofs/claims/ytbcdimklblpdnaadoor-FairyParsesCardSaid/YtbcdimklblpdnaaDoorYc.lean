/- Layer 27: names; fairy pieces that are valid (reference), and equal ones. -/
import Derived.Test.YtbcdimklblpdnaaDoorYb
import Derived.Test.YtbcdimklblpdnaaDoorYpc
namespace Go.Proofs.YtbcdimklblpdnaaDoor
open Go Go.RowKit
set_option linter.unusedSimpArgs false
set_option linter.unusedVariables false
set_option maxHeartbeats 2000000 in
theorem rnamed (s : ByteArray) (w : World) (hs : s.size ≤ maxLen) : Calls Tryd.prog 41 #[.string s] w fun e w' => e = .returned (.bool (PC.givV s)) ∧ w = w' := by
  unfold maxLen at hs
  go_enter Tryd.func41, Tryd.ntmps41
  go_wp2_with fail
  go_loop [3] (fun i => ∃ k : Nat, k ≤ s.size ∧ i = .int .i64 k ∧ Hid (∀ j, j < k → (h : j < s.size) → PC.okP j (s[j].toNat : Int))) (fun i => s.size - (intOf i).toNat)
  case atStart => exact ⟨0, by omega, rfl, fun j hj => absurd hj (by omega)⟩
  case round =>
    obtain ⟨k, hk, rfl, hH⟩ := hrel
    have hk0 : (0 : Int) ≤ (k : Int) := Int.natCast_nonneg _
    by_cases hlt : k < s.size
    · have hnew : Hid (PC.okP k (s[k].toNat : Int) → ∀ j, j < k + 1 → (h : j < s.size) → PC.okP j (s[j].toNat : Int)) := fun hok j hj hj' => by
        by_cases e : j = k
        · subst e; exact hok
        · exact hH.out j (by omega) hj'
      have hr : Hid (¬ PC.okP k (s[k].toNat : Int) → PC.givV s = false) := fun hok => PC.givV_no hlt hok
      have hlI : (k : Int) < (s.size : Int) := by omega
      obtain ⟨c, hc⟩ : ∃ c, (s[k].toNat : Int) = c := ⟨_, rfl⟩
      rw [hc] at hnew hr
      have hcb : 0 ≤ c ∧ c ≤ 255 := by have := s[k].toNat_lt; omega
      by_cases hq : 65 ≤ c ∧ c ≤ 90
      · skip
        have d0 : (65 ≤ c) = True := by first | exact eq_true (by omega) | exact eq_false (by omega)
        have d1 : (c ≤ 90) = True := by first | exact eq_true (by omega) | exact eq_false (by omega)
        have d2 : (97 ≤ c) = False := by first | exact eq_true (by omega) | exact eq_false (by omega)
        have d3 : (c ≤ 122) = True := by first | exact eq_true (by omega) | exact eq_false (by omega)
        have d4 : (48 ≤ c) = True := by first | exact eq_true (by omega) | exact eq_false (by omega)
        have d5 : (c ≤ 57) = False := by first | exact eq_true (by omega) | exact eq_false (by omega)
        have d6 : (c != 45) = true := by first | (rw [bne_iff_ne]; omega) | (rw [bne_eq_false_iff_eq]; omega)
        have d7 : (c != 95) = true := by first | (rw [bne_iff_ne]; omega) | (rw [bne_eq_false_iff_eq]; omega)
        go_wp2_with fail
        go_round
        case rel => exact ⟨k + 1, by omega, by go_num, hnew.out (by unfold PC.okP; omega)⟩
        case measure => simp [intOf]; omega
      by_cases hq : 97 ≤ c ∧ c ≤ 122
      · skip
        have d0 : (65 ≤ c) = True := by first | exact eq_true (by omega) | exact eq_false (by omega)
        have d1 : (c ≤ 90) = False := by first | exact eq_true (by omega) | exact eq_false (by omega)
        have d2 : (97 ≤ c) = True := by first | exact eq_true (by omega) | exact eq_false (by omega)
        have d3 : (c ≤ 122) = True := by first | exact eq_true (by omega) | exact eq_false (by omega)
        have d4 : (48 ≤ c) = True := by first | exact eq_true (by omega) | exact eq_false (by omega)
        have d5 : (c ≤ 57) = False := by first | exact eq_true (by omega) | exact eq_false (by omega)
        have d6 : (c != 45) = true := by first | (rw [bne_iff_ne]; omega) | (rw [bne_eq_false_iff_eq]; omega)
        have d7 : (c != 95) = true := by first | (rw [bne_iff_ne]; omega) | (rw [bne_eq_false_iff_eq]; omega)
        go_wp2_with fail
        go_round
        case rel => exact ⟨k + 1, by omega, by go_num, hnew.out (by unfold PC.okP; omega)⟩
        case measure => simp [intOf]; omega
      by_cases hq : 48 ≤ c ∧ c ≤ 57
      · skip
        have d0 : (65 ≤ c) = False := by first | exact eq_true (by omega) | exact eq_false (by omega)
        have d1 : (c ≤ 90) = True := by first | exact eq_true (by omega) | exact eq_false (by omega)
        have d2 : (97 ≤ c) = False := by first | exact eq_true (by omega) | exact eq_false (by omega)
        have d3 : (c ≤ 122) = True := by first | exact eq_true (by omega) | exact eq_false (by omega)
        have d4 : (48 ≤ c) = True := by first | exact eq_true (by omega) | exact eq_false (by omega)
        have d5 : (c ≤ 57) = True := by first | exact eq_true (by omega) | exact eq_false (by omega)
        have d6 : (c != 45) = true := by first | (rw [bne_iff_ne]; omega) | (rw [bne_eq_false_iff_eq]; omega)
        have d7 : (c != 95) = true := by first | (rw [bne_iff_ne]; omega) | (rw [bne_eq_false_iff_eq]; omega)
        by_cases hz : k = 0
        · have dz : ((k : Int) == 0) = true := by rw [beq_iff_eq]; omega
          have hzH := Lib.hid hz
          clear hz
          go_wp2_with fail
          go_ret
          exact ⟨rb (hr.out (by have := hzH.out; unfold PC.okP; omega)).symm, rfl⟩
        · have dz : ((k : Int) == 0) = false := by rw [beq_eq_false_iff_ne]; omega
          go_wp2_with fail
          go_round
          case rel => exact ⟨k + 1, by omega, by go_num, hnew.out (by unfold PC.okP; omega)⟩
          case measure => simp [intOf]; omega
      by_cases hq : c = 45
      · skip
        have d0 : (65 ≤ c) = False := by first | exact eq_true (by omega) | exact eq_false (by omega)
        have d1 : (c ≤ 90) = True := by first | exact eq_true (by omega) | exact eq_false (by omega)
        have d2 : (97 ≤ c) = False := by first | exact eq_true (by omega) | exact eq_false (by omega)
        have d3 : (c ≤ 122) = True := by first | exact eq_true (by omega) | exact eq_false (by omega)
        have d4 : (48 ≤ c) = False := by first | exact eq_true (by omega) | exact eq_false (by omega)
        have d5 : (c ≤ 57) = True := by first | exact eq_true (by omega) | exact eq_false (by omega)
        have d6 : (c != 45) = false := by first | (rw [bne_iff_ne]; omega) | (rw [bne_eq_false_iff_eq]; omega)
        have d7 : (c != 95) = true := by first | (rw [bne_iff_ne]; omega) | (rw [bne_eq_false_iff_eq]; omega)
        by_cases hz : k = 0
        · have dz : ((k : Int) == 0) = true := by rw [beq_iff_eq]; omega
          have hzH := Lib.hid hz
          clear hz
          go_wp2_with fail
          go_ret
          exact ⟨rb (hr.out (by have := hzH.out; unfold PC.okP; omega)).symm, rfl⟩
        · have dz : ((k : Int) == 0) = false := by rw [beq_eq_false_iff_ne]; omega
          go_wp2_with fail
          go_round
          case rel => exact ⟨k + 1, by omega, by go_num, hnew.out (by unfold PC.okP; omega)⟩
          case measure => simp [intOf]; omega
      by_cases hq : c = 95
      · skip
        have d0 : (65 ≤ c) = True := by first | exact eq_true (by omega) | exact eq_false (by omega)
        have d1 : (c ≤ 90) = False := by first | exact eq_true (by omega) | exact eq_false (by omega)
        have d2 : (97 ≤ c) = False := by first | exact eq_true (by omega) | exact eq_false (by omega)
        have d3 : (c ≤ 122) = True := by first | exact eq_true (by omega) | exact eq_false (by omega)
        have d4 : (48 ≤ c) = True := by first | exact eq_true (by omega) | exact eq_false (by omega)
        have d5 : (c ≤ 57) = False := by first | exact eq_true (by omega) | exact eq_false (by omega)
        have d6 : (c != 45) = true := by first | (rw [bne_iff_ne]; omega) | (rw [bne_eq_false_iff_eq]; omega)
        have d7 : (c != 95) = false := by first | (rw [bne_iff_ne]; omega) | (rw [bne_eq_false_iff_eq]; omega)
        by_cases hz : k = 0
        · have dz : ((k : Int) == 0) = true := by rw [beq_iff_eq]; omega
          have hzH := Lib.hid hz
          clear hz
          go_wp2_with fail
          go_ret
          exact ⟨rb (hr.out (by have := hzH.out; unfold PC.okP; omega)).symm, rfl⟩
        · have dz : ((k : Int) == 0) = false := by rw [beq_eq_false_iff_ne]; omega
          go_wp2_with fail
          go_round
          case rel => exact ⟨k + 1, by omega, by go_num, hnew.out (by unfold PC.okP; omega)⟩
          case measure => simp [intOf]; omega
      by_cases hq : c < 48
      · skip
        have d0 : (65 ≤ c) = False := by first | exact eq_true (by omega) | exact eq_false (by omega)
        have d1 : (c ≤ 90) = True := by first | exact eq_true (by omega) | exact eq_false (by omega)
        have d2 : (97 ≤ c) = False := by first | exact eq_true (by omega) | exact eq_false (by omega)
        have d3 : (c ≤ 122) = True := by first | exact eq_true (by omega) | exact eq_false (by omega)
        have d4 : (48 ≤ c) = False := by first | exact eq_true (by omega) | exact eq_false (by omega)
        have d5 : (c ≤ 57) = True := by first | exact eq_true (by omega) | exact eq_false (by omega)
        have d6 : (c != 45) = true := by first | (rw [bne_iff_ne]; omega) | (rw [bne_eq_false_iff_eq]; omega)
        have d7 : (c != 95) = true := by first | (rw [bne_iff_ne]; omega) | (rw [bne_eq_false_iff_eq]; omega)
        by_cases hz : k = 0
        · have dz : ((k : Int) == 0) = true := by rw [beq_iff_eq]; omega
          have hzH := Lib.hid hz
          clear hz
          go_wp2_with fail
          go_ret
          exact ⟨rb (hr.out (by have := hzH.out; unfold PC.okP; omega)).symm, rfl⟩
        · have dz : ((k : Int) == 0) = false := by rw [beq_eq_false_iff_ne]; omega
          go_wp2_with fail
          go_ret
          exact ⟨rb (hr.out (by unfold PC.okP; omega)).symm, rfl⟩
      by_cases hq : c < 65
      · skip
        have d0 : (65 ≤ c) = False := by first | exact eq_true (by omega) | exact eq_false (by omega)
        have d1 : (c ≤ 90) = True := by first | exact eq_true (by omega) | exact eq_false (by omega)
        have d2 : (97 ≤ c) = False := by first | exact eq_true (by omega) | exact eq_false (by omega)
        have d3 : (c ≤ 122) = True := by first | exact eq_true (by omega) | exact eq_false (by omega)
        have d4 : (48 ≤ c) = True := by first | exact eq_true (by omega) | exact eq_false (by omega)
        have d5 : (c ≤ 57) = False := by first | exact eq_true (by omega) | exact eq_false (by omega)
        have d6 : (c != 45) = true := by first | (rw [bne_iff_ne]; omega) | (rw [bne_eq_false_iff_eq]; omega)
        have d7 : (c != 95) = true := by first | (rw [bne_iff_ne]; omega) | (rw [bne_eq_false_iff_eq]; omega)
        by_cases hz : k = 0
        · have dz : ((k : Int) == 0) = true := by rw [beq_iff_eq]; omega
          have hzH := Lib.hid hz
          clear hz
          go_wp2_with fail
          go_ret
          exact ⟨rb (hr.out (by have := hzH.out; unfold PC.okP; omega)).symm, rfl⟩
        · have dz : ((k : Int) == 0) = false := by rw [beq_eq_false_iff_ne]; omega
          go_wp2_with fail
          go_ret
          exact ⟨rb (hr.out (by unfold PC.okP; omega)).symm, rfl⟩
      by_cases hq : c < 97
      · skip
        have d0 : (65 ≤ c) = True := by first | exact eq_true (by omega) | exact eq_false (by omega)
        have d1 : (c ≤ 90) = False := by first | exact eq_true (by omega) | exact eq_false (by omega)
        have d2 : (97 ≤ c) = False := by first | exact eq_true (by omega) | exact eq_false (by omega)
        have d3 : (c ≤ 122) = True := by first | exact eq_true (by omega) | exact eq_false (by omega)
        have d4 : (48 ≤ c) = True := by first | exact eq_true (by omega) | exact eq_false (by omega)
        have d5 : (c ≤ 57) = False := by first | exact eq_true (by omega) | exact eq_false (by omega)
        have d6 : (c != 45) = true := by first | (rw [bne_iff_ne]; omega) | (rw [bne_eq_false_iff_eq]; omega)
        have d7 : (c != 95) = true := by first | (rw [bne_iff_ne]; omega) | (rw [bne_eq_false_iff_eq]; omega)
        by_cases hz : k = 0
        · have dz : ((k : Int) == 0) = true := by rw [beq_iff_eq]; omega
          have hzH := Lib.hid hz
          clear hz
          go_wp2_with fail
          go_ret
          exact ⟨rb (hr.out (by have := hzH.out; unfold PC.okP; omega)).symm, rfl⟩
        · have dz : ((k : Int) == 0) = false := by rw [beq_eq_false_iff_ne]; omega
          go_wp2_with fail
          go_ret
          exact ⟨rb (hr.out (by unfold PC.okP; omega)).symm, rfl⟩
      have hq : 122 < c := by omega
      have d0 : (65 ≤ c) = True := by first | exact eq_true (by omega) | exact eq_false (by omega)
      have d1 : (c ≤ 90) = False := by first | exact eq_true (by omega) | exact eq_false (by omega)
      have d2 : (97 ≤ c) = True := by first | exact eq_true (by omega) | exact eq_false (by omega)
      have d3 : (c ≤ 122) = False := by first | exact eq_true (by omega) | exact eq_false (by omega)
      have d4 : (48 ≤ c) = True := by first | exact eq_true (by omega) | exact eq_false (by omega)
      have d5 : (c ≤ 57) = False := by first | exact eq_true (by omega) | exact eq_false (by omega)
      have d6 : (c != 45) = true := by first | (rw [bne_iff_ne]; omega) | (rw [bne_eq_false_iff_eq]; omega)
      have d7 : (c != 95) = true := by first | (rw [bne_iff_ne]; omega) | (rw [bne_eq_false_iff_eq]; omega)
      by_cases hz : k = 0
      · have dz : ((k : Int) == 0) = true := by rw [beq_iff_eq]; omega
        have hzH := Lib.hid hz
        clear hz
        go_wp2_with fail
        go_ret
        exact ⟨rb (hr.out (by have := hzH.out; unfold PC.okP; omega)).symm, rfl⟩
      · have dz : ((k : Int) == 0) = false := by rw [beq_eq_false_iff_ne]; omega
        go_wp2_with fail
        go_ret
        exact ⟨rb (hr.out (by unfold PC.okP; omega)).symm, rfl⟩
    · obtain rfl : k = s.size := by omega
      have hr : Hid (PC.givV s = inB (s.size : Int) 1 32) := by
        show _ = _
        rw [PC.givV_all fun j hj => hH.out j (by omega) hj]
        by_cases h : 1 ≤ s.size ∧ s.size ≤ 32
        · rw [decide_eq_true h, inB_yes (by omega) (by omega)]
        · rw [decide_eq_false h, inB_no (by omega)]
      go_wp2_with (go_at_call 42; refine (rto _ _ _ _).mono ?_; rintro e w' ⟨rfl, rfl⟩)
      go_ret
      exact ⟨rb hr.out.symm, rfl⟩
/-- the box of a fairy piece -/
structure KF (w : World) (B : Nat) (s : ByteArray) (A : Option Addr) (n c : Nat) : Prop where
  c0 : w.cell? ⟨B, 0, none⟩ = some (.string s)
  c1 : w.cell? ⟨B, 1, none⟩ = some (.slice A n c)
  lt : B < w.heap.size
theorem KF.new (w : World) (s : ByteArray) (A : Option Addr) (n c : Nat) : KF (w.alloc (.cells #[.string s, .slice A n c] 25)) w.heap.size s A n c :=
  ⟨by rw [cell_of_row _ _ _ _ _ _ (heap_alloc_new w _)]; rfl, by rw [cell_of_row _ _ _ _ _ _ (heap_alloc_new w _)]; rfl, by simp⟩
theorem KF.next {w w' : World} {B : Nat} {s : ByteArray} {A : Option Addr} {n c : Nat} (h : KF w B s A n c) (hb : Below w.heap.size w w') : KF w' B s A n c :=
  ⟨(hb.cell (p := ⟨B, _, none⟩) h.lt).trans h.c0, (hb.cell (p := ⟨B, _, none⟩) h.lt).trans h.c1, Nat.lt_of_lt_of_le h.lt hb.size⟩
theorem KF.two (w : World) (s s' : ByteArray) (A A' : Option Addr) (n n' c c' : Nat) : KF ((w.alloc (.cells #[.string s, .slice A n c] 25)).alloc (.cells #[.string s', .slice A' n' c'] 25)) w.heap.size s A n c ∧ KF ((w.alloc (.cells #[.string s, .slice A n c] 25)).alloc (.cells #[.string s', .slice A' n' c'] 25)) (w.heap.size + 1) s' A' n' c' ∧ Below w.heap.size w ((w.alloc (.cells #[.string s, .slice A n c] 25)).alloc (.cells #[.string s', .slice A' n' c'] 25)) := by
  have e1 : (w.alloc (.cells #[.string s, .slice A n c] 25)).heap.size = w.heap.size + 1 := by simp
  refine ⟨(KF.new w s A n c).next ((Below.refl _ _).alloc (Nat.le_refl _) _), ?_, ((Below.refl _ _).alloc (Nat.le_refl _) _).alloc (by omega) _⟩
  have := KF.new (w.alloc (.cells #[.string s, .slice A n c] 25)) s' A' n' c'
  rwa [e1] at this
/-- valid fairy pieces -/
def difA (l : List At) (i : Nat) (x : At) (K : Nat) : Prop := ∀ (j : Nat) (y : At), j < K → l[j]? = some y → y ≠ x
def upA (l : List At) (K : Nat) : Prop := ∀ (i : Nat) (x : At), i < K → l[i]? = some x → okA x ∧ difA l i x i
def okL (l : List At) : Prop := upA l l.length ∧ 1 ≤ l.length ∧ l.length ≤ 8
def okFy (s : ByteArray) (l : List At) : Prop := okL l ∧ PC.givV s = true
open Classical in
noncomputable def fyB (s : ByteArray) (l : List At) : Bool := decide (okFy s l)
open Classical in
theorem fyB_yes {s : ByteArray} {l : List At} (h : okFy s l) : fyB s l = true := by unfold fyB; exact decide_eq_true h
open Classical in
theorem fyB_no {s : ByteArray} {l : List At} (h : ¬ okFy s l) : fyB s l = false := by unfold fyB; exact decide_eq_false h
theorem upA.succ {l : List At} {k : Nat} {x : At} (h : upA l k) (hx : l[k]? = some x) (h1 : okA x) (h2 : difA l k x k) : upA l (k + 1) := fun i y hi hy => by
  by_cases e : i = k
  · subst e
    obtain rfl := Option.some.inj (hx.symm.trans hy)
    exact ⟨h1, h2⟩
  · exact h i y (by omega) hy
set_option maxRecDepth 100000 in
set_option maxHeartbeats 4000000 in
theorem rvalid (s : ByteArray) (A : Option Addr) (l : List At) (c : Nat) (w : World) (hR : RecAt aEnc 6 w w.heap.size A l) (hl : l.length ≤ 100000) (hs : s.size ≤ maxLen) :
    Calls Tryd.prog 24 #[.agg #[.string s, .slice A l.length c]] w fun e w' => e = .returned (.bool (fyB s l)) ∧ Below w.heap.size w w' := by
  have hX := Lib.hid (KF.new w s A l.length c)
  have hb1 : Hid (Below w.heap.size w (w.alloc (.cells #[.string s, .slice A l.length c] 25))) := (Below.refl _ _).alloc (Nat.le_refl _) _
  have hRH := Lib.hid (recs_next hR hb1.out)
  have hsH := Lib.hid hs
  clear hR hs
  go_enter Tryd.func24, Tryd.ntmps24
  go_upto_region 1 with fail
  generalize w.heap.size = B0 at hX ⊢
  generalize w.alloc (.cells #[.string s, .slice A l.length c] 25) = u at *
  go_wp2_with fail
  go_loopw [3] (fun i wr => ∃ k : Nat, k ≤ l.length ∧ i = .int .i64 k ∧ Hid (upA l k) ∧ Hid (Below u.heap.size u wr)) (fun i _ => l.length - (intOf i).toNat)
  case atStart => exact ⟨0, by omega, rfl, fun i x hi => absurd hi (Nat.not_lt_zero _), Below.refl _ _⟩
  case round =>
    obtain ⟨k, hk, rfl, hup, hB⟩ := hrel
    have hk0 : (0 : Int) ≤ (k : Int) := Int.natCast_nonneg _
    have x0 := (hX.out.next hB.out).c0
    have x1 := (hX.out.next hB.out).c1
    by_cases hkn : k < l.length
    rotate_left
    · obtain rfl : k = l.length := by omega
      have hin : Hid (fyB s l = (PC.givV s && inB (l.length : Int) 1 8)) := by
        show _ = _
        cases hg : PC.givV s with
        | false => exact fyB_no fun h => by have h2 := h.2; rw [hg] at h2; cases h2
        | true =>
          by_cases h8 : 1 ≤ l.length ∧ l.length ≤ 8
          · rw [inB_yes (by omega) (by omega)]
            exact fyB_yes ⟨⟨hup.out, h8⟩, hg⟩
          · rw [inB_no (by omega)]
            exact fyB_no fun h => h8 h.1.2
      have hN : Hid (∀ W, Calls Tryd.prog 41 #[.string s] W fun e w' => e = .returned (.bool (PC.givV s)) ∧ W = w') := fun W => rnamed s W hsH.out
      generalize PC.givV s = G at *
      cases G with
      | false =>
        go_wp2_with (first | (go_at_call 41; refine (hN.out _).mono ?_; rintro e w' ⟨rfl, rfl⟩) | (go_at_call 42; refine (rto _ _ _ _).mono ?_; rintro e w' ⟨rfl, rfl⟩))
        go_ret
        exact ⟨rb (by rw [hin.out]; rfl), hb1.out.trans (hB.out.mono hb1.out.size)⟩
      | true =>
        go_wp2_with (first | (go_at_call 41; refine (hN.out _).mono ?_; rintro e w' ⟨rfl, rfl⟩) | (go_at_call 42; refine (rto _ _ _ _).mono ?_; rintro e w' ⟨rfl, rfl⟩))
        go_ret
        exact ⟨rb (by rw [hin.out]; rfl), hb1.out.trans (hB.out.mono hb1.out.size)⟩
    have hkI : (k : Int) < (l.length : Int) := by omega
    obtain ⟨x, hx⟩ : ∃ x, l[k]? = some x := ⟨_, List.getElem?_eq_getElem hkn⟩
    obtain ⟨bk, off, rfl, hbk, hE⟩ := atoms6_of hRH.out hx
    obtain ⟨e0, e1, e2, e3, e4, e5⟩ := hE.next hbk hB.out
    have hEx := Lib.hid hE
    replace hx := Lib.hid hx
    clear hE
    by_cases hok : okA x
    rotate_left
    · have hfin : Hid (fyB s l = false) := fyB_no fun h => hok (h.1.1 k x hkn hx.out).1
      have hAt : Hid (∀ W, Calls Tryd.prog 40 #[aV x] W fun e w' => e = .returned (.bool false) ∧ Below W.heap.size W w') := fun W => aB_no hok ▸ rAtom x W
      clear hok
      go_wp2_with (go_at_call 40; refine (hAt.out _).mono ?_; rintro e w2 ⟨rfl, hb2⟩)
      go_ret
      exact ⟨rb hfin.out.symm, hb1.out.trans ((hB.out.trans (hb2.mono hB.out.size)).mono hb1.out.size)⟩
    have hAt : Hid (∀ W, Calls Tryd.prog 40 #[aV x] W fun e w' => e = .returned (.bool true) ∧ Below W.heap.size W w') := fun W => aB_yes hok ▸ rAtom x W
    have hokH := Lib.hid hok
    clear hok
    go_wp2_with (go_at_call 40; refine (hAt.out _).mono ?_; rintro e w2 ⟨rfl, hb2⟩; have hB2 : Hid (Below u.heap.size u w2) := hB.out.trans (hb2.mono hB.out.size); clear hb2)
    clear hAt x0 x1 e0 e1 e2 e3 e4 e5 hB
    clear wr
    go_loopw [4] (fun i wr => ∃ q : Nat, q ≤ k ∧ i = .int .i64 q ∧ Hid (difA l k x q) ∧ Hid (Below u.heap.size u wr)) (fun i _ => k - (intOf i).toNat)
    case atStart => exact ⟨0, by omega, rfl, fun j y hj => absurd hj (Nat.not_lt_zero _), hB2⟩
    case round =>
      clear hB2
      obtain ⟨q, hq, rfl, hdf, hB⟩ := hrel
      have hq0 : (0 : Int) ≤ (q : Int) := Int.natCast_nonneg _
      by_cases hqk : q < k
      rotate_left
      · obtain rfl : q = k := by omega
        have hnew := Lib.hid (hup.out.succ hx.out hokH.out hdf.out)
        go_wp2_with fail
        go_roundw
        case rel => exact ⟨q + 1, by omega, by go_num, hnew, hB⟩
        case measure => simp [intOf]; omega
      have hqI : (q : Int) < (k : Int) := by omega
      have hqL : (q : Int) < (l.length : Int) := by omega
      have x0 := (hX.out.next hB.out).c0
      have x1 := (hX.out.next hB.out).c1
      obtain ⟨y, hy⟩ : ∃ y, l[q]? = some y := ⟨_, List.getElem?_eq_getElem (by omega)⟩
      obtain ⟨b2, o2, hA2, hb2, hE2⟩ := atoms6_of hRH.out hy
      simp only [Option.some.injEq, Addr.mk.injEq, and_true] at hA2
      obtain ⟨rfl, rfl⟩ := hA2
      obtain ⟨e0, e1, e2, e3, e4, e5⟩ := hEx.out.next hbk hB.out
      obtain ⟨f0, f1, f2, f3, f4, f5⟩ := hE2.next hbk hB.out
      have heq := fun w => run_eql_atE y x w
      replace hy := Lib.hid hy
      clear hE2 hb2
      by_cases hxy : y = x
      · have hE := atE_yes hxy
        have hfin : Hid (fyB s l = false) := fyB_no fun h => (h.1.1 k x hkn hx.out).2 q y hqk hy.out hxy
        replace hxy := Lib.hid hxy
        go_upto_region 9 with fail
        go_quiet (fail)
        go_wp2_with fail
        go_ret
        exact ⟨rb hfin.out.symm, hb1.out.trans ((below_drewN hB.out _).mono hb1.out.size)⟩
      · have hE := atE_no hxy
        have hnew : Hid (difA l k x (q + 1)) := fun j z hj hz => by
          by_cases e : j = q
          · subst e
            obtain rfl := Option.some.inj (hy.out.symm.trans hz)
            exact hxy
          · exact hdf.out j z (by omega) hz
        have hxyH := Lib.hid hxy
        clear hxy
        go_upto_region 9 with fail
        go_quiet (fail)
        go_wp2_with fail
        go_roundw
        case rel => exact ⟨q + 1, by omega, by go_num, hnew, below_drewN hB.out _⟩
        case measure => simp [intOf]; omega
end Go.Proofs.YtbcdimklblpdnaaDoor
