/- Layer 27: kept, ContainsFunc and check of the program. -/
import Derived.Test.YtbcdimklblpdnaaDoorYu
import Derived.Test.YtbcdimklblpdnaaDoorYsq
import Derived.Test.YtbcdimklblpdnaaDoorYe
import Derived.Laws.BitsAllLaws
namespace Go.Proofs.YtbcdimklblpdnaaDoor
open Go Go.RowKit
set_option linter.unusedSimpArgs false
set_option linter.unusedVariables false
/-- a set without a square -/
def clr (s k : Nat) : Nat := s &&& (18446744073709551615 - 2 ^ k)
theorem clr_le (s k : Nat) : clr s k ≤ s := Nat.and_le_left
theorem clr_bit (s k j : Nat) (hs : s < 18446744073709551616) (hk : k < 64) : (clr s k).testBit j = (s.testBit j && decide (j ≠ k)) := by
  have hp : 2 ^ k < 2 ^ 64 := Nat.pow_lt_pow_right (by decide) hk
  unfold clr
  rw [Nat.testBit_and, show 18446744073709551615 - 2 ^ k = 2 ^ 64 - (2 ^ k + 1) by omega, Nat.testBit_two_pow_sub_succ hp, Nat.testBit_two_pow]
  by_cases hj : j < 64
  · rw [decide_eq_true hj, Bool.true_and]
    by_cases h : k = j
    · subst h; simp
    · have h2 : ¬ j = k := fun e => h e.symm
      simp [h, h2]
  · have : s.testBit j = false := Nat.testBit_lt_two_pow (Nat.lt_of_lt_of_le (show s < 2 ^ 64 by omega) (Nat.pow_le_pow_right (by decide) (by omega)))
    rw [this]; simp
theorem clr_shift {s k : Nat} (hs : s < 18446744073709551616) (hk : k < 64) : bits BinOp.andNot IntKind.u64 (s : Int) (IntKind.u64.wrap (2 ^ k)) = ((clr s k : Nat) : Int) := by
  have e : 2 ^ k < 2 ^ 64 := Nat.pow_lt_pow_right (by decide) hk
  have e2 : IntKind.u64.wrap (2 ^ k) = ((2 ^ k : Nat) : Int) := by
    rw [IntKind.wrap_u64, Int.emod_eq_of_lt]
    · simp
    · exact Int.le_of_lt (Int.pow_pos (by decide))
    · have : ((2 ^ k : Nat) : Int) < ((2 ^ 64 : Nat) : Int) := by exact_mod_cast e
      simpa using this
  rw [e2]
  exact u64_andNot_nat s _ hs (by omega)
/-- the squares of a set whose pieces have a property -/
def keptN (is : Int → Bool) (ps : List Int) (set : Nat) : Nat → Nat
  | 0 => set
  | n + 1 => if is (ps.getD n 0) then keptN is ps set n else clr (keptN is ps set n) n
theorem keptN_le (is : Int → Bool) (ps : List Int) (set : Nat) : ∀ n, keptN is ps set n ≤ set
  | 0 => Nat.le_refl _
  | n + 1 => by
    have ih := keptN_le is ps set n
    unfold keptN
    split
    · exact ih
    · exact Nat.le_trans (clr_le _ _) ih
theorem keptN_bit (is : Int → Bool) (ps : List Int) (set : Nat) (hs : set < 18446744073709551616) (j : Nat) : ∀ n, n ≤ 64 → (keptN is ps set n).testBit j = (set.testBit j && (decide (n ≤ j) || is (ps.getD j 0)))
  | 0, _ => by simp [keptN]
  | n + 1, hn => by
    have ih := keptN_bit is ps set hs j n (by omega)
    have hl := keptN_le is ps set n
    unfold keptN
    by_cases hi : is (ps.getD n 0) = true
    · rw [if_pos hi, ih]
      by_cases hj : n = j
      · subst hj; rw [hi]; simp
      · congr 2
        exact decide_eq_decide.2 (by omega)
    · rw [if_neg hi, clr_bit _ _ _ (by omega) (by omega), ih]
      by_cases hj : j = n
      · subst hj
        rw [show is (ps.getD j 0) = false by simpa using hi]
        simp
      · rw [decide_eq_true hj, Bool.and_true]
        congr 2
        exact decide_eq_decide.2 (by omega)
set_option maxRecDepth 100000 in
set_option maxHeartbeats 1000000 in
theorem pkept (f r : Int) (ps : List Int) (P : Option Addr) (c : Nat) (set : Nat) (g : Nat) (cb : Array Value) (is : Int → Bool) (w : World) (hP : RecAt pEnc 1 w w.heap.size P ps) (hl : ps.length ≤ 64) (hset : set < 18446744073709551616)
    (eg : ∀ args w, (callFunc g args).run Tryd.prog w = .ok (.enter g args) w) (hcl : ∀ (W : World) (p : Int), Below w.heap.size w W → Calls Tryd.prog g (#[.int .i8 p] ++ cb) W fun e w' => e = .returned (.bool (is p)) ∧ W = w') :
    Calls Tryd.prog 29 #[.agg #[.int .i64 f, .int .i64 r, .slice P ps.length c], .int .u64 (set : Int), .func (.func g) #[] cb] w fun e w' => e = .returned (.int .u64 (keptN is ps set ps.length : Nat)) ∧ keptN is ps set ps.length < 18446744073709551616 ∧ Below w.heap.size w w' := by
  have hX := Lib.hid (KBd.new w f r P ps.length c)
  have hb1 : Hid (Below w.heap.size w (w.alloc (.cells #[.int .i64 f, .int .i64 r, .slice P ps.length c] 48))) := (Below.refl _ _).alloc (Nat.le_refl _) _
  have hPH := Lib.hid (recs_next hP hb1.out)
  have hclH : Hid (∀ (W : World) (p : Int), Below (w.alloc (.cells #[.int .i64 f, .int .i64 r, .slice P ps.length c] 48)).heap.size (w.alloc (.cells #[.int .i64 f, .int .i64 r, .slice P ps.length c] 48)) W → Calls Tryd.prog g (#[.int .i8 p] ++ cb) W fun e w' => e = .returned (.bool (is p)) ∧ W = w') := fun W p hh => hcl W p (hb1.out.trans (hh.mono hb1.out.size))
  have hltH : Hid (∀ n, keptN is ps set n < 18446744073709551616) := fun n => Nat.lt_of_le_of_lt (keptN_le _ _ _ _) hset
  clear hP hcl
  go_enter Tryd.func29, Tryd.ntmps29
  go_upto_region 1 with fail
  generalize w.heap.size = B0 at hX ⊢
  generalize w.alloc (.cells #[.int .i64 f, .int .i64 r, .slice P ps.length c] 48) = u at *
  obtain ⟨x0, x1, x2, _⟩ := hX.out
  go_wp2_with fail
  clear x0 x1 x2
  go_loop [1, 12] (fun s i => ∃ (k : Nat), k ≤ ps.length ∧ i = .int .i64 (k : Int) ∧ s = .int .u64 (keptN is ps set k : Nat)) (fun _ i => ps.length - (intOf i).toNat)
  case atStart => exact ⟨0, by omega, rfl, rfl⟩
  case round =>
    obtain ⟨k, hk, rfl, rfl⟩ := hrel
    have hk0 : (0 : Int) ≤ (k : Int) := Int.natCast_nonneg _
    by_cases hkl : k < ps.length
    rotate_left
    · obtain rfl : k = ps.length := by omega
      go_wp2_with fail
      go_ret
      exact ⟨rfl, hltH.out _, hb1.out⟩
    have hkI : (k : Int) < (ps.length : Int) := by omega
    obtain ⟨x, hx⟩ : ∃ x, ps[k]? = some x := ⟨_, List.getElem?_eq_getElem hkl⟩
    obtain ⟨bk, off, rfl, hbk, hc⟩ := recP hPH.out hx
    have hgd : ps.getD k 0 = x := by rw [List.getD_eq_getElem?_getD, hx]; rfl
    have hst : Hid (keptN is ps set (k + 1) = if is x then keptN is ps set k else clr (keptN is ps set k) k) := by
      show (if is (ps.getD k 0) then _ else _) = _
      rw [hgd]
    have hand := clr_shift (hltH.out k) (show k < 64 by omega)
    have hcx := Lib.hid (fun W => hclH.out W x)
    obtain ⟨S, hS⟩ : ∃ S, keptN is ps set k = S := ⟨_, rfl⟩
    rw [hS] at hst hand ⊢
    obtain ⟨b, hb⟩ : ∃ b, is x = b := ⟨_, rfl⟩
    rw [hb] at hst hcx
    clear hx hgd hS hb
    go_upto_region 4 with fail
    cases b
    · have hst2 : Hid (keptN is ps set (k + 1) = clr S k) := hst.out
      clear hst
      go_wp2_with (go_at_fn g; refine (hcx.out _ (Below.refl _ _)).mono ?_; rintro e w2 ⟨rfl, rfl⟩)
      go_round
      case rel => exact ⟨k + 1, by omega, by go_num, by rw [hst2.out]⟩
      case measure => simp [intOf]; omega
    · have hst2 : Hid (keptN is ps set (k + 1) = S) := hst.out
      clear hst
      go_wp2_with (go_at_fn g; refine (hcx.out _ (Below.refl _ _)).mono ?_; rintro e w2 ⟨rfl, rfl⟩)
      go_round
      case rel => exact ⟨k + 1, by omega, by go_num, by rw [hst2.out]⟩
      case measure => simp [intOf]; omega
theorem pgoes1 (p : Int) (W : World) : Calls Tryd.prog 31 #[.int .i8 p] W fun e w' => e = .returned (.bool (p == 0)) ∧ W = w' := by
  go_enter Tryd.func31, Tryd.ntmps31
  go_wp2_with fail
  go_ret
  exact ⟨rfl, rfl⟩
set_option maxHeartbeats 1000000 in
theorem ptakes1 (p : Int) (b : Bool) (BQ : Nat) (W : World) (h : W.cell? ⟨BQ, 0, none⟩ = some (.bool b)) : Calls Tryd.prog 32 #[.int .i8 p, .pointer (some ⟨BQ, 0, none⟩)] W fun e w' => e = .returned (.bool (enB b p)) ∧ W = w' := by
  have hV : Hid (enB b p = if 0 < p then b else if p < 0 then !b else false) := rfl
  obtain ⟨v, hv⟩ : ∃ v, enB b p = v := ⟨_, rfl⟩
  rw [hv] at hV ⊢
  clear hv
  rcases Int.lt_trichotomy p 0 with h0 | h0 | h0
  · have q1 : (0 < p) = False := eq_false (by omega)
    have q2 : (p < 0) = True := eq_true h0
    have hV2 : Hid (v = !b) := by show v = _; rw [hV.out, if_neg (by omega), if_pos h0]
    clear h0 hV
    cases b <;>
    · go_enter Tryd.func32, Tryd.ntmps32
      go_wp2_with fail
      go_ret
      exact ⟨rb (by rw [hV2.out] <;> rfl), rfl⟩
  · have q1 : (0 < p) = False := eq_false (by omega)
    have q2 : (p < 0) = False := eq_false (by omega)
    have hV2 : Hid (v = false) := by show v = _; rw [hV.out, if_neg (by omega), if_neg (by omega)]
    clear h0 hV
    cases b <;>
    · go_enter Tryd.func32, Tryd.ntmps32
      go_wp2_with fail
      go_ret
      exact ⟨rb (by rw [hV2.out] <;> rfl), rfl⟩
  · have q1 : (0 < p) = True := eq_true h0
    have q2 : (p < 0) = False := eq_false (by omega)
    have hV2 : Hid (v = b) := by show v = _; rw [hV.out, if_pos h0]
    clear h0 hV
    cases b <;>
    · go_enter Tryd.func32, Tryd.ntmps32
      go_wp2_with fail
      go_ret
      exact ⟨rb (by rw [hV2.out] <;> rfl), rfl⟩
/-- a piece's number is valid -/
def okN (p : Int) : Prop := -15 ≤ p ∧ p ≤ 15
instance (p : Int) : Decidable (okN p) := by unfold okN; infer_instance
theorem pvalp (p : Int) (W : World) : Calls Tryd.prog 51 #[.int .i8 p] W fun e w' => e = .returned (.bool (decide (okN p))) ∧ W = w' := by
  by_cases h : okN p
  · rw [decide_eq_true h]; exact PC.pvalid_yes p W h.1 h.2
  · rw [decide_eq_false h]; exact PC.pvalid_no p W (by unfold okN at h; omega)
theorem pcheck1 (p : Int) (W : World) : Calls Tryd.prog 50 #[.int .i8 p] W fun e w' => e = .returned (.bool (!decide (okN p))) ∧ W = w' := by
  have hc := Lib.hid (fun W => pvalp p W)
  generalize decide (okN p) = b at *
  go_enter Tryd.func50, Tryd.ntmps50
  go_wp2_with (go_at_call 51; refine (hc.out _).mono ?_; rintro e w2 ⟨rfl, rfl⟩)
  go_ret
  exact ⟨rfl, rfl⟩
/-- all pieces are valid -/
def allB (ps : List Int) : Bool := decide (∀ p ∈ ps, okN p)
set_option maxHeartbeats 1000000 in
theorem pindexf (ps : List Int) (P : Option Addr) (c : Nat) (w : World) (hP : RecAt pEnc 1 w w.heap.size P ps) (hl : ps.length ≤ 100000) :
    Calls Tryd.prog 66 #[.slice P ps.length c, .func (.func 50) #[] #[]] w fun e w' => (∃ i : Int, e = .returned (.int .i64 i) ∧ ((i = -1 ∧ allB ps = true) ∨ (0 ≤ i ∧ allB ps = false))) ∧ w = w' := by
  have hPH := Lib.hid hP
  have eg : ∀ args w, (callFunc 50 args).run Tryd.prog w = .ok (.enter 50 args) w := enters_of Tryd.func50 (by kernel_rfl) rfl
  have hcl : Hid (∀ (W : World) (p : Int), Calls Tryd.prog 50 #[.int .i8 p] W fun e w' => e = .returned (.bool (!decide (okN p))) ∧ W = w') := fun W p => pcheck1 p W
  clear hP
  go_enter Tryd.func66, Tryd.ntmps66
  go_wp2_with fail
  go_loop [8] (fun i => ∃ (k : Nat), k ≤ ps.length ∧ i = .int .i64 (k : Int) ∧ Hid (∀ (j : Nat) (y : Int), j < k → ps[j]? = some y → okN y)) (fun i => ps.length - (intOf i).toNat)
  case atStart => exact ⟨0, by omega, rfl, fun j y hj => absurd hj (by omega)⟩
  case round =>
    obtain ⟨k, hk, rfl, hH⟩ := hrel
    have hk0 : (0 : Int) ≤ (k : Int) := Int.natCast_nonneg _
    by_cases hkl : k < ps.length
    rotate_left
    · obtain rfl : k = ps.length := by omega
      have hfin : Hid (allB ps = true) := decide_eq_true fun p hp => by
        obtain ⟨j, hj⟩ := List.getElem?_of_mem hp
        exact hH.out j p (List.getElem?_eq_some_iff.1 hj).1 hj
      go_wp2_with fail
      go_ret
      exact ⟨⟨-1, rfl, .inl ⟨rfl, hfin.out⟩⟩, rfl⟩
    have hkI : (k : Int) < (ps.length : Int) := by omega
    obtain ⟨x, hx⟩ : ∃ x, ps[k]? = some x := ⟨_, List.getElem?_eq_getElem hkl⟩
    obtain ⟨bk, off, rfl, hbk, hc⟩ := recP hPH.out hx
    have hcx := Lib.hid (fun W => hcl.out W x)
    by_cases hox : okN x
    · rw [decide_eq_true hox] at hcx
      have hnew : Hid (∀ (j : Nat) (y : Int), j < k + 1 → ps[j]? = some y → okN y) := fun j y hj hy => by
        by_cases e : j = k
        · subst e
          rw [hx] at hy
          obtain rfl := Option.some.inj hy
          exact hox
        · exact hH.out j y (by omega) hy
      clear hx hH hox
      go_wp2_with (go_at_fn 50; refine (hcx.out _).mono ?_; rintro e w2 ⟨rfl, rfl⟩)
      go_round
      case rel => exact ⟨k + 1, by omega, by go_num, hnew⟩
      case measure => simp [intOf]; omega
    · rw [decide_eq_false hox] at hcx
      have hfin : Hid (allB ps = false) := decide_eq_false fun h => hox (h x (List.mem_of_getElem? hx))
      clear hx hH hox
      go_wp2_with (go_at_fn 50; refine (hcx.out _).mono ?_; rintro e w2 ⟨rfl, rfl⟩)
      go_ret
      exact ⟨⟨(k : Int), rfl, .inr ⟨hk0, hfin.out⟩⟩, rfl⟩
set_option maxHeartbeats 1000000 in
theorem pcontains (ps : List Int) (P : Option Addr) (c : Nat) (w : World) (hP : RecAt pEnc 1 w w.heap.size P ps) (hl : ps.length ≤ 100000) :
    Calls Tryd.prog 49 #[.slice P ps.length c, .func (.func 50) #[] #[]] w fun e w' => e = .returned (.bool (!(allB ps))) ∧ w = w' := by
  have hc := Lib.hid (pindexf ps P c w hP hl)
  clear hP
  generalize allB ps = b at *
  go_enter Tryd.func49, Tryd.ntmps49
  go_wp2_with fail
  go_at_call 66
  refine hc.out.mono ?_
  rintro e w2 ⟨⟨i, rfl, hi⟩, rfl⟩
  rcases hi with ⟨rfl, rfl⟩ | ⟨hi, rfl⟩
  · go_wp2_with fail
    go_ret
    exact ⟨rfl, rfl⟩
  · have q1 : (0 ≤ i) = True := eq_true hi
    go_wp2_with fail
    go_ret
    exact ⟨rfl, rfl⟩
end Go.Proofs.YtbcdimklblpdnaaDoor
