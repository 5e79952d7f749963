/- Layer 1: the laws of names and places. Printed by gen_sq.py. -/
import Derived.Test.YtjjchodcoeciaaaDoorQj
namespace Go.Proofs.YtjjchodcoeciaaaDoor
open Go.RowKit
set_option linter.unusedSimpArgs false
set_option linter.unusedVariables false

/-- the box of the size lies in W as it lay -/
structure BK (f r : Int) (w W : World) : Prop where
  c0 : W.cell? ⟨w.heap.size, 0, none⟩ = some (.int .i64 f)
  c1 : W.cell? ⟨w.heap.size, 1, none⟩ = some (.int .i64 r)
  lt : w.heap.size < W.heap.size
  below : Below w.heap.size w W
theorem BK.first (f r : Int) (w : World) (t : TypeId) : BK f r w (w.alloc (.cells #[.int .i64 f, .int .i64 r] t)) :=
  ⟨by simp, by simp, by simp, (Below.refl _ _).alloc (Nat.le_refl _) _⟩
theorem BK.next {f r : Int} {w W W' : World} (h : BK f r w W) (hb : Below W.heap.size W W') : BK f r w W' :=
  ⟨(hb.cell (p := ⟨w.heap.size, 0, none⟩) h.lt).trans h.c0, (hb.cell (p := ⟨w.heap.size, 1, none⟩) h.lt).trans h.c1, Nat.lt_of_lt_of_le h.lt hb.size, h.below.trans (hb.mono h.below.size)⟩

theorem two_of {s : ByteArray} (h0 : 0 < s.size) (h1 : 1 < s.size) (hl : s.size ≤ 2) : s = ⟨#[s[0]'h0, s[1]'h1]⟩ := by
  obtain ⟨⟨l⟩⟩ := s
  have h2 : l.length = 2 := Nat.le_antisymm hl h1
  match l, h2 with
  | [a, b], _ => rfl
theorem nm_of (b c : UInt8) : nm ((b.toNat : Int) - 97) ((c.toNat : Int) - 49) = ⟨#[b, c]⟩ := by
  unfold nm bx
  rw [show (97 + ((b.toNat : Int) - 97)).toNat = b.toNat by omega, show (49 + ((c.toNat : Int) - 49)).toNat = c.toNat by omega, UInt8.ofNat_toNat, UInt8.ofNat_toNat]
theorem nm_out {x y : Int} {s : ByteArray} (h0 : 0 < s.size) (h1 : 1 < s.size) (hx : 0 ≤ x ∧ x < 8) (hy : 0 ≤ y ∧ y < 8) (h : nm x y = s) : x = ((s[0]'h0).toNat : Int) - 97 ∧ y = ((s[1]'h1).toNat : Int) - 49 := by
  subst h
  have e0 := bx_of (n := 97 + x) (by omega) (by omega)
  have e1 := bx_of (n := 49 + y) (by omega) (by omega)
  exact ⟨by show x = ((bx (97 + x)).toNat : Int) - 97; omega, by show y = ((bx (49 + y)).toNat : Int) - 49; omega⟩
theorem on_sq {f r x y : Int} (hs : szB f r = true) (h : onB f r x y = true) : sqB f r (x + y * f) = true ∧ (x + y * f) % f = x ∧ (x + y * f) / f = y := by
  obtain ⟨o0, o1, o2, o3⟩ := onB_out h
  obtain ⟨f0, f1, r0, r1⟩ := szB_out hs
  obtain ⟨_, b0, b1⟩ := mul_bd2 f0 f1 r0 r1 o0 o1 o2 o3
  refine ⟨?_, ?_, ?_⟩
  · rw [sqB_in hs]; exact decide_eq_true ⟨b0, b1⟩
  · rw [Int.add_mul_emod_self_right, Int.emod_eq_of_lt o0 o1]
  · rw [Int.add_mul_ediv_right _ _ (by omega), Int.ediv_eq_zero_of_lt o0 o1, Int.zero_add]
theorem sq_on {f r a : Int} (h : sqB f r a = true) : onB f r (a % f) (a / f) = true := by
  obtain ⟨d0, d1, d2, d3, _⟩ := place_bd h
  exact decide_eq_true ⟨d0, d1, d2, d3⟩

set_option maxRecDepth 100000 in
set_option maxHeartbeats 1000000 in
theorem parses_long (f r : Int) (s : ByteArray) (w : World) (hT : TabAt w) (hm : s.size ≤ maxLen) (hl : 20 < s.size) : Calls Tryd.prog 5 #[.agg #[.int .i64 f, .int .i64 r], .string s] w fun e w' => e = .returned (.bool true) ∧ Below w.heap.size w w' := by
  have hTH := Lib.hid hT
  have hpos := hT.pos
  clear hT
  have hK := Lib.hid (BK.first f r w 23)
  have c0 := hK.out.c0
  have c1 := hK.out.c1
  go_enter Tryd.func5, Tryd.ntmps5
  go_wp2_with (first
    | (go_at_call 16; refine (known_1 _ (hTH.out.below hpos hK.out.below)).mono ?_; rintro e w' ⟨rfl, hb⟩; replace hK := Lib.hid (hK.out.next hb); replace c0 := hK.out.c0; replace c1 := hK.out.c1; clear hb))
  go_ret
  exact ⟨rfl, hK.out.below⟩
set_option maxRecDepth 100000 in
set_option maxHeartbeats 1000000 in
theorem parses_arg (f r : Int) (s : ByteArray) (w : World) (hT : TabAt w) (hl : s.size ≤ 20) (hs : szB f r = false) : Calls Tryd.prog 5 #[.agg #[.int .i64 f, .int .i64 r], .string s] w fun e w' => e = .returned (.bool true) ∧ Below w.heap.size w w' := by
  have hTH := Lib.hid hT
  have hpos := hT.pos
  clear hT
  have hK := Lib.hid (BK.first f r w 23)
  have c0 := hK.out.c0
  have c1 := hK.out.c1
  go_enter Tryd.func5, Tryd.ntmps5
  go_wp2_with (first
    | (go_at_call 26; refine (pparse_arg _ _ _ _ hs).mono ?_; rintro e w' ⟨rfl, hb⟩; replace hK := Lib.hid (hK.out.next hb); replace c0 := hK.out.c0; replace c1 := hK.out.c1; clear hb)
    | (go_at_call 13; refine (rsize _ _ _).mono ?_; rintro e w' ⟨rfl, hb⟩; rw [hs]; replace hK := Lib.hid (hK.out.next hb); replace c0 := hK.out.c0; replace c1 := hK.out.c1; clear hb)
    | (go_at_call 16; refine (known_1 _ (hTH.out.below hpos hK.out.below)).mono ?_; rintro e w' ⟨rfl, hb⟩; replace hK := Lib.hid (hK.out.next hb); replace c0 := hK.out.c0; replace c1 := hK.out.c1; clear hb))
  go_ret
  exact ⟨rfl, hK.out.below⟩
set_option maxRecDepth 100000 in
set_option maxHeartbeats 1000000 in
theorem parses_len (f r : Int) (s : ByteArray) (w : World) (hT : TabAt w) (hl : s.size ≤ 20) (hs : szB f r = true) (hne : s.size ≠ 2) : Calls Tryd.prog 5 #[.agg #[.int .i64 f, .int .i64 r], .string s] w fun e w' => e = .returned (.bool true) ∧ Below w.heap.size w w' := by
  have hTH := Lib.hid hT
  have hpos := hT.pos
  clear hT
  have hno : Hid (∀ k : Int, sqB f r k = true → nm (k % f) (k / f) ≠ s) := fun k _ e => hne (by rw [← e]; rfl)
  have hK := Lib.hid (BK.first f r w 23)
  have c0 := hK.out.c0
  have c1 := hK.out.c1
  go_enter Tryd.func5, Tryd.ntmps5
  go_wp2_with (first
    | (go_at_call 26; refine (pparse_len _ _ _ _ hs hne (Nat.le_trans hl (by decide))).mono ?_; rintro e w' ⟨rfl, hb⟩; replace hK := Lib.hid (hK.out.next hb); replace c0 := hK.out.c0; replace c1 := hK.out.c1; clear hb)
    | (go_at_call 13; refine (rsize _ _ _).mono ?_; rintro e w' ⟨rfl, hb⟩; rw [hs]; replace hK := Lib.hid (hK.out.next hb); replace c0 := hK.out.c0; replace c1 := hK.out.c1; clear hb)
    | (go_at_call 27; refine (rparse_no _ _ _ _ hs hno.out).mono ?_; rintro e w' ⟨rfl, hb⟩; replace hK := Lib.hid (hK.out.next hb); replace c0 := hK.out.c0; replace c1 := hK.out.c1; clear hb)
    | (go_at_call 16; refine (known_1 _ (hTH.out.below hpos hK.out.below)).mono ?_; rintro e w' ⟨rfl, hb⟩; replace hK := Lib.hid (hK.out.next hb); replace c0 := hK.out.c0; replace c1 := hK.out.c1; clear hb))
  go_ret
  exact ⟨rfl, hK.out.below⟩
set_option maxRecDepth 100000 in
set_option maxHeartbeats 1000000 in
theorem parses_no (f r : Int) (s : ByteArray) (w : World) (hT : TabAt w) (h0 : 0 < s.size) (h1 : 1 < s.size) (hl : s.size ≤ 2) (hs : szB f r = true) (ho : onB f r (((s[0]'h0).toNat : Int) - 97) (((s[1]'h1).toNat : Int) - 49) = false) : Calls Tryd.prog 5 #[.agg #[.int .i64 f, .int .i64 r], .string s] w fun e w' => e = .returned (.bool true) ∧ Below w.heap.size w w' := by
  have hTH := Lib.hid hT
  have hpos := hT.pos
  clear hT
  have hno : Hid (∀ k : Int, sqB f r k = true → nm (k % f) (k / f) ≠ s) := fun k hk e => by
    obtain ⟨f0, f1, r0, r1⟩ := szB_out hs
    obtain ⟨d0, d1, d2, d3, _⟩ := place_bd hk
    obtain ⟨e0, e1⟩ := nm_out h0 h1 ⟨d0, by omega⟩ ⟨d2, by omega⟩ e
    rw [← e0, ← e1, sq_on hk] at ho
    cases ho
  have hK := Lib.hid (BK.first f r w 23)
  have c0 := hK.out.c0
  have c1 := hK.out.c1
  go_enter Tryd.func5, Tryd.ntmps5
  go_wp2_with (first
    | (go_at_call 26; refine (pparse_no _ _ _ _ hs h0 h1 hl ho).mono ?_; rintro e w' ⟨rfl, hb⟩; replace hK := Lib.hid (hK.out.next hb); replace c0 := hK.out.c0; replace c1 := hK.out.c1; clear hb)
    | (go_at_call 13; refine (rsize _ _ _).mono ?_; rintro e w' ⟨rfl, hb⟩; rw [hs]; replace hK := Lib.hid (hK.out.next hb); replace c0 := hK.out.c0; replace c1 := hK.out.c1; clear hb)
    | (go_at_call 27; refine (rparse_no _ _ _ _ hs hno.out).mono ?_; rintro e w' ⟨rfl, hb⟩; replace hK := Lib.hid (hK.out.next hb); replace c0 := hK.out.c0; replace c1 := hK.out.c1; clear hb)
    | (go_at_call 16; refine (known_1 _ (hTH.out.below hpos hK.out.below)).mono ?_; rintro e w' ⟨rfl, hb⟩; replace hK := Lib.hid (hK.out.next hb); replace c0 := hK.out.c0; replace c1 := hK.out.c1; clear hb))
  go_ret
  exact ⟨rfl, hK.out.below⟩
set_option maxRecDepth 100000 in
set_option maxHeartbeats 1000000 in
theorem parses_yes (f r : Int) (s : ByteArray) (w : World) (hT : TabAt w) (h0 : 0 < s.size) (h1 : 1 < s.size) (hl : s.size ≤ 2) (hs : szB f r = true) (ho : onB f r (((s[0]'h0).toNat : Int) - 97) (((s[1]'h1).toNat : Int) - 49) = true) : Calls Tryd.prog 5 #[.agg #[.int .i64 f, .int .i64 r], .string s] w fun e w' => e = .returned (.bool true) ∧ Below w.heap.size w w' := by
  have hTH := Lib.hid hT
  have hpos := hT.pos
  clear hT
  have hq : Hid (∀ x y : Int, x = ((s[0]'h0).toNat : Int) - 97 → y = ((s[1]'h1).toNat : Int) - 49 → sqB f r (x + y * f) = true ∧ nm ((x + y * f) % f) ((x + y * f) / f) = s) := fun x y hx hy => by
    subst hx hy
    obtain ⟨q0, q1, q2⟩ := on_sq hs ho
    exact ⟨q0, by rw [q1, q2, nm_of]; exact (two_of h0 h1 hl).symm⟩
  have hge : 0 ≤ ((s[0]'h0).toNat : Int) - 97 + (((s[1]'h1).toNat : Int) - 49) * f := (sqB_out (hq.out _ _ rfl rfl).1).2.1
  have hK := Lib.hid (BK.first f r w 23)
  have c0 := hK.out.c0
  have c1 := hK.out.c1
  go_enter Tryd.func5, Tryd.ntmps5
  go_wp2_with (first
    | (go_at_call 26; refine (pparse_yes _ _ _ _ hs h0 h1 hl ho).mono ?_; rintro e w' ⟨rfl, hb⟩; replace hK := Lib.hid (hK.out.next hb); replace c0 := hK.out.c0; replace c1 := hK.out.c1; clear hb)
    | (go_at_call 13; refine (rsize _ _ _).mono ?_; rintro e w' ⟨rfl, hb⟩; rw [hs]; replace hK := Lib.hid (hK.out.next hb); replace c0 := hK.out.c0; replace c1 := hK.out.c1; clear hb)
    | (go_at_call 27; refine (rparse_yes f r _ s _ (hq.out _ _ rfl rfl).1 (hq.out _ _ rfl rfl).2).mono ?_; rintro e w' ⟨rfl, hb⟩; replace hK := Lib.hid (hK.out.next hb); replace c0 := hK.out.c0; replace c1 := hK.out.c1; clear hb)
    | (go_at_call 16; refine (known_1 _ (hTH.out.below hpos hK.out.below)).mono ?_; rintro e w' ⟨rfl, hb⟩; replace hK := Lib.hid (hK.out.next hb); replace c0 := hK.out.c0; replace c1 := hK.out.c1; clear hb))
  go_ret
  exact ⟨rfl, hK.out.below⟩
theorem law_parses (f r : Int) (s : ByteArray) (w : World) (hT : TabAt w) (hm : s.size ≤ maxLen) : Calls Tryd.prog 5 #[.agg #[.int .i64 f, .int .i64 r], .string s] w fun e w' => e = .returned (.bool true) ∧ Below w.heap.size w w' := by
  rcases Nat.lt_or_ge 20 s.size with hl | hl
  · exact parses_long f r s w hT hm hl
  · cases hs : szB f r
    · exact parses_arg f r s w hT hl hs
    · by_cases hne : s.size = 2
      · have h0 : 0 < s.size := by omega
        have h1 : 1 < s.size := by omega
        cases ho : onB f r (((s[0]'h0).toNat : Int) - 97) (((s[1]'h1).toNat : Int) - 49)
        · exact parses_no f r s w hT h0 h1 (by omega) hs ho
        · exact parses_yes f r s w hT h0 h1 (by omega) hs ho
      · exact parses_len f r s w hT hl hs hne
end Go.Proofs.YtjjchodcoeciaaaDoor
