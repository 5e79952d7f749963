/- Layer 7: the laws MoveTexts and MoveParses. -/
import Derived.Test.YtlnphcdanadaeaaDoorMk
namespace Go.Proofs.YtlnphcdanadaeaaDoor
open Go.RowKit
set_option linter.unusedSimpArgs false
set_option linter.unusedVariables false

theorem BK.alloc {f r : Int} {w W : World} (h : BK f r w W) (o : Obj) : BK f r w (W.alloc o) := h.next ((Below.refl _ _).alloc (Nat.le_refl _) o)
theorem rres_f (a b p : Int) : rres false a b p = .tuple #[.agg #[.int .i64 0, .int .i64 0, .int .i8 0], .bool false] := rfl
theorem rres_t (a b p : Int) : rres true a b p = .tuple #[.agg #[.int .i64 a, .int .i64 b, .int .i8 p], .bool true] := rfl
set_option maxRecDepth 100000 in
theorem law_texts (f r a b p : Int) (w : World) (hE : EnvAt w) : Calls Tryd.prog 3 #[.agg #[.int .i64 f, .int .i64 r], .agg #[.int .i64 a, .int .i64 b, .int .i8 p]] w fun e w' => e = .returned (.bool true) ∧ Below w.heap.size w w' := by
  have hK := Lib.hid (MB.first f r a b p w 23 27)
  have c0 := hK.out.c0
  have c1 := hK.out.c1
  have m0 := hK.out.m0
  have m1 := hK.out.m1
  have m2 := hK.out.m2
  have hEH := Lib.hid hE
  clear hE
  have hEW : ∀ W, Below w.heap.size w W → EnvAt W := fun W hb => hEH.out.next hb
  replace hEW := Lib.hid hEW
  have hpos := hEH.out.pos
  rcases h : mvB f r a b p with _ | _
  · go_enter Tryd.func3, Tryd.ntmps3
    go_wp2_with (first
      | (go_at_call 9; refine (ptext_no _ _ _ _ _ _ h).mono ?_; rintro e w1 ⟨rfl, hbw⟩; replace hK := Lib.hid (hK.out.next hbw); replace c0 := hK.out.c0; replace c1 := hK.out.c1; replace m0 := hK.out.m0; replace m1 := hK.out.m1; replace m2 := hK.out.m2; clear hbw)
      | (go_at_call 10; refine (rmvalid _ _ _ _ _ _).mono ?_; rintro e w2 ⟨rfl, hbw⟩; rw [h]; replace hK := Lib.hid (hK.out.next hbw); replace c0 := hK.out.c0; replace c1 := hK.out.c1; replace m0 := hK.out.m0; replace m1 := hK.out.m1; replace m2 := hK.out.m2; clear hbw)
      | (go_at_call 11; refine (known_7 _ (hEW.out _ hK.out.below)).mono ?_; rintro e w3 ⟨rfl, hbw⟩; replace hK := Lib.hid (hK.out.next hbw); replace c0 := hK.out.c0; replace c1 := hK.out.c1; replace m0 := hK.out.m0; replace m1 := hK.out.m1; replace m2 := hK.out.m2; clear hbw))
    go_ret
    exact ⟨rfl, hK.out.below⟩
  · generalize hT : mvT f a b p = T
    replace hT := Lib.hid hT
    have htx : Hid (∀ W, Below w.heap.size w W → Calls Tryd.prog 9 #[.agg #[.int .i64 f, .int .i64 r], .agg #[.int .i64 a, .int .i64 b, .int .i8 p]] W fun e w' => e = .returned (.tuple #[.string T, .int .i64 0]) ∧ Below W.heap.size W w') := fun W hb => by
      have hW := hEW.out W hb
      rw [← hT.out]
      exact ptext_yes f r a b p W hW.kinds h (by have := hW.pos; omega)
    have hrx : Hid (∀ W, Calls Tryd.prog 12 #[.agg #[.int .i64 f, .int .i64 r], .agg #[.int .i64 a, .int .i64 b, .int .i8 p]] W fun e w' => e = .returned (.string T) ∧ Below W.heap.size W w') := fun W => by
      rw [← hT.out]
      exact rtext f r a b p W h
    clear hT
    go_enter Tryd.func3, Tryd.ntmps3
    go_wp2_with (first
      | (go_at_call 9; refine (htx.out _ hK.out.below).mono ?_; rintro e w1 ⟨rfl, hbw⟩; replace hK := Lib.hid (hK.out.next hbw); replace c0 := hK.out.c0; replace c1 := hK.out.c1; replace m0 := hK.out.m0; replace m1 := hK.out.m1; replace m2 := hK.out.m2; clear hbw)
      | (go_at_call 10; refine (rmvalid _ _ _ _ _ _).mono ?_; rintro e w2 ⟨rfl, hbw⟩; rw [h]; replace hK := Lib.hid (hK.out.next hbw); replace c0 := hK.out.c0; replace c1 := hK.out.c1; replace m0 := hK.out.m0; replace m1 := hK.out.m1; replace m2 := hK.out.m2; clear hbw)
      | (go_at_call 12; refine (hrx.out _).mono ?_; rintro e w3 ⟨rfl, hbw⟩; replace hK := Lib.hid (hK.out.next hbw); replace c0 := hK.out.c0; replace c1 := hK.out.c1; replace m0 := hK.out.m0; replace m1 := hK.out.m1; replace m2 := hK.out.m2; clear hbw)
      | (go_at_call 11; refine (known_7 _ (hEW.out _ hK.out.below)).mono ?_; rintro e w4 ⟨rfl, hbw⟩; replace hK := Lib.hid (hK.out.next hbw); replace c0 := hK.out.c0; replace c1 := hK.out.c1; replace m0 := hK.out.m0; replace m1 := hK.out.m1; replace m2 := hK.out.m2; clear hbw))
    go_ret
    exact ⟨rfl, hK.out.below⟩
theorem par_arg (f r : Int) (s : ByteArray) (w : World) (hE : EnvAt w) (h20 : s.size ≤ 20) (h : szB f r = false) : Calls Tryd.prog 4 #[.agg #[.int .i64 f, .int .i64 r], .string s] w fun e w' => e = .returned (.bool true) ∧ Below w.heap.size w w' := by
  have hK := Lib.hid (BK.first f r w 23)
  have c0 := hK.out.c0
  have c1 := hK.out.c1
  have hEW : Hid (∀ W, Below w.heap.size w W → EnvAt W) := fun W hb => hE.next hb
  clear hE
  go_enter Tryd.func4, Tryd.ntmps4
  go_upto_region 4 with (go_at_call 13; refine (pmp_arg _ _ _ _ h).mono ?_; rintro e w1 ⟨rfl, hbw⟩; replace hK := Lib.hid (hK.out.next hbw); replace c0 := hK.out.c0; replace c1 := hK.out.c1; clear hbw)
  have hT := Lib.hid (tri_new w1 w1.heap.size (.int .i64 0) (.int .i64 0) (.int .i8 0) 27 rfl)
  replace hK := Lib.hid (hK.out.alloc (.cells #[.int .i64 0, .int .i64 0, .int .i8 0] 27))
  generalize hB : w1.heap.size = B5 at *
  generalize w1.alloc (.cells #[.int .i64 0, .int .i64 0, .int .i8 0] 27) = W5 at *
  clear hB
  replace c0 := hK.out.c0
  replace c1 := hK.out.c1
  have k0 := hT.out.c0
  have k1 := hT.out.c1
  have k2 := hT.out.c2
  go_wp2_with (first
    | (go_at_call 14; refine (rsize _ _ _).mono ?_; rintro e w2 ⟨rfl, hbw⟩; rw [h]; replace hT := Lib.hid (hT.out.next hbw); replace k0 := hT.out.c0; replace k1 := hT.out.c1; replace k2 := hT.out.c2; replace hK := Lib.hid (hK.out.next hbw); replace c0 := hK.out.c0; replace c1 := hK.out.c1; clear hbw)
    | (go_at_call 11; refine (known_7 _ (hEW.out _ hK.out.below)).mono ?_; rintro e w3 ⟨rfl, hbw⟩; replace hT := Lib.hid (hT.out.next hbw); replace k0 := hT.out.c0; replace k1 := hT.out.c1; replace k2 := hT.out.c2; replace hK := Lib.hid (hK.out.next hbw); replace c0 := hK.out.c0; replace c1 := hK.out.c1; clear hbw))
  go_ret
  exact ⟨rfl, hK.out.below⟩
theorem par_long (f r : Int) (s : ByteArray) (w : World) (hE : EnvAt w) (h20 : 20 < s.size) (hm : s.size ≤ maxLen) : Calls Tryd.prog 4 #[.agg #[.int .i64 f, .int .i64 r], .string s] w fun e w' => e = .returned (.bool true) ∧ Below w.heap.size w w' := by
  have hK := Lib.hid (BK.first f r w 23)
  have hEW : Hid (∀ W, Below w.heap.size w W → EnvAt W) := fun W hb => hE.next hb
  have c0 := hK.out.c0
  have c1 := hK.out.c1
  clear hE
  unfold maxLen at hm
  have hl : (20 : Int) < (s.size : Int) := by omega
  go_enter Tryd.func4, Tryd.ntmps4
  go_wp2_with (go_at_call 11; refine (known_7 _ (hEW.out _ hK.out.below)).mono ?_; rintro e w3 ⟨rfl, hbw⟩; replace hK := Lib.hid (hK.out.next hbw); replace c0 := hK.out.c0; replace c1 := hK.out.c1; clear hbw)
  go_ret
  exact ⟨rfl, hK.out.below⟩
theorem par_in (f r : Int) (s : ByteArray) (w : World) (hE : EnvAt w) (h20 : s.size ≤ 20) (h : szB f r = true) : Calls Tryd.prog 4 #[.agg #[.int .i64 f, .int .i64 r], .string s] w fun e w' => e = .returned (.bool true) ∧ Below w.heap.size w w' := by
  have hK := Lib.hid (BK.first f r w 23)
  have c0 := hK.out.c0
  have c1 := hK.out.c1
  have hEW : Hid (∀ W, Below w.heap.size w W → EnvAt W) := fun W hb => hE.next hb
  have hlen : s.size ≤ maxLen := by unfold maxLen; omega
  obtain ⟨ok, a, b, p, hv⟩ : ∃ ok a b p, mvS f r s = (ok, a, b, p) := ⟨_, _, _, _, rfl⟩
  have hpm : Hid (∀ W, Below w.heap.size w W → Calls Tryd.prog 13 #[.agg #[.int .i64 f, .int .i64 r], .string s] W fun e w' => e = .returned (mres ok a b p) ∧ Below W.heap.size W w') := fun W hb => by
    have hW := hEW.out W hb
    have := pmp f r s W h hlen hW.kinds (by have := hW.pos; omega)
    rw [hv] at this
    exact this
  have hrm : Hid (∀ W, Calls Tryd.prog 15 #[.agg #[.int .i64 f, .int .i64 r], .string s] W fun e w' => e = .returned (rres ok a b p) ∧ Below W.heap.size W w') := fun W => by
    have := rmp f r s W h hlen
    rw [hv] at this
    exact this
  clear hE hv hlen
  cases ok
  · go_enter Tryd.func4, Tryd.ntmps4
    go_upto_region 4 with (go_at_call 13; refine (hpm.out _ hK.out.below).mono ?_; rintro e w1 ⟨rfl, hbw⟩; rw [mres_f]; replace hK := Lib.hid (hK.out.next hbw); replace c0 := hK.out.c0; replace c1 := hK.out.c1; clear hbw)
    have hT := Lib.hid (tri_new w1 w1.heap.size (.int .i64 0) (.int .i64 0) (.int .i8 0) 27 rfl)
    replace hK := Lib.hid (hK.out.alloc (.cells #[.int .i64 0, .int .i64 0, .int .i8 0] 27))
    generalize hB : w1.heap.size = B5 at *
    generalize w1.alloc (.cells #[.int .i64 0, .int .i64 0, .int .i8 0] 27) = W5 at *
    clear hB
    replace c0 := hK.out.c0
    replace c1 := hK.out.c1
    have k0 := hT.out.c0
    have k1 := hT.out.c1
    have k2 := hT.out.c2
    go_wp2_with (first
      | (go_at_call 14; refine (rsize _ _ _).mono ?_; rintro e w2 ⟨rfl, hbw⟩; rw [h]; replace hT := Lib.hid (hT.out.next hbw); replace k0 := hT.out.c0; replace k1 := hT.out.c1; replace k2 := hT.out.c2; replace hK := Lib.hid (hK.out.next hbw); replace c0 := hK.out.c0; replace c1 := hK.out.c1; clear hbw)
      | (go_at_call 15; refine (hrm.out _).mono ?_; rintro e w3 ⟨rfl, hbw⟩; rw [rres_f]; replace hT := Lib.hid (hT.out.next hbw); replace k0 := hT.out.c0; replace k1 := hT.out.c1; replace k2 := hT.out.c2; replace hK := Lib.hid (hK.out.next hbw); replace c0 := hK.out.c0; replace c1 := hK.out.c1; clear hbw; have hA := Lib.hid (hK.out.alloc (.cells #[.int .i64 0, .int .i64 0, .int .i8 0] 27)); have hA2 := Lib.hid (hT.out.alloc (.cells #[.int .i64 0, .int .i64 0, .int .i8 0] 27)); have z0 := hA2.out.c0; have z1 := hA2.out.c1; have z2 := hA2.out.c2)
      | (go_at_call 11; refine (known_7 _ (hEW.out _ hA.out.below)).mono ?_; rintro e w4 ⟨rfl, hbw⟩; replace hA := Lib.hid (hA.out.next hbw); clear hbw))
    go_ret
    exact ⟨rfl, hA.out.below⟩
  · go_enter Tryd.func4, Tryd.ntmps4
    go_upto_region 4 with (go_at_call 13; refine (hpm.out _ hK.out.below).mono ?_; rintro e w1 ⟨rfl, hbw⟩; rw [mres_t]; replace hK := Lib.hid (hK.out.next hbw); replace c0 := hK.out.c0; replace c1 := hK.out.c1; clear hbw)
    have hT := Lib.hid (tri_new w1 w1.heap.size (.int .i64 a) (.int .i64 b) (.int .i8 p) 27 rfl)
    replace hK := Lib.hid (hK.out.alloc (.cells #[.int .i64 a, .int .i64 b, .int .i8 p] 27))
    generalize hB : w1.heap.size = B5 at *
    generalize w1.alloc (.cells #[.int .i64 a, .int .i64 b, .int .i8 p] 27) = W5 at *
    clear hB
    replace c0 := hK.out.c0
    replace c1 := hK.out.c1
    have k0 := hT.out.c0
    have k1 := hT.out.c1
    have k2 := hT.out.c2
    go_wp2_with (first
      | (go_at_call 14; refine (rsize _ _ _).mono ?_; rintro e w2 ⟨rfl, hbw⟩; rw [h]; replace hT := Lib.hid (hT.out.next hbw); replace k0 := hT.out.c0; replace k1 := hT.out.c1; replace k2 := hT.out.c2; replace hK := Lib.hid (hK.out.next hbw); replace c0 := hK.out.c0; replace c1 := hK.out.c1; clear hbw)
      | (go_at_call 15; refine (hrm.out _).mono ?_; rintro e w3 ⟨rfl, hbw⟩; rw [rres_t]; replace hT := Lib.hid (hT.out.next hbw); replace k0 := hT.out.c0; replace k1 := hT.out.c1; replace k2 := hT.out.c2; replace hK := Lib.hid (hK.out.next hbw); replace c0 := hK.out.c0; replace c1 := hK.out.c1; clear hbw; have hA := Lib.hid (hK.out.alloc (.cells #[.int .i64 a, .int .i64 b, .int .i8 p] 27)); have hA2 := Lib.hid (hT.out.alloc (.cells #[.int .i64 a, .int .i64 b, .int .i8 p] 27)); have z0 := hA2.out.c0; have z1 := hA2.out.c1; have z2 := hA2.out.c2)
      | (go_at_call 11; refine (known_7 _ (hEW.out _ hA.out.below)).mono ?_; rintro e w4 ⟨rfl, hbw⟩; replace hA := Lib.hid (hA.out.next hbw); clear hbw))
    go_ret
    exact ⟨rfl, hA.out.below⟩
theorem law_parses (f r : Int) (s : ByteArray) (w : World) (hE : EnvAt w) (hm : s.size ≤ maxLen) : Calls Tryd.prog 4 #[.agg #[.int .i64 f, .int .i64 r], .string s] w fun e w' => e = .returned (.bool true) ∧ Below w.heap.size w w' := by
  by_cases h20 : 20 < s.size
  · exact par_long f r s w hE h20 hm
  · cases h : szB f r
    · exact par_arg f r s w hE (by omega) h
    · exact par_in f r s w hE (by omega) h
end Go.Proofs.YtlnphcdanadaeaaDoor
