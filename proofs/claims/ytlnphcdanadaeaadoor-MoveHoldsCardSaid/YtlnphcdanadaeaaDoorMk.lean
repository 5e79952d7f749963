/- Layer 7: the examples of the chapter. Printed by gen_mk.py. -/
import Derived.Test.YtlnphcdanadaeaaDoorMj
namespace Go.Proofs.YtlnphcdanadaeaaDoor
open Go.RowKit
set_option linter.unusedSimpArgs false
set_option linter.unusedVariables false

/-- the variables of the packages, as the code finds them -/
structure EnvAt (w : World) : Prop where
  kinds : PC.KindsAt w
  len : ∃ m : Int, w.cell? ⟨1, 0, none⟩ = some (.int .i64 m)
  pos : 1 < w.heap.size
theorem EnvAt.below {w w' : World} (h : EnvAt w) {B : Nat} (hB : 1 < B) (hb : Below B w w') (hs : B ≤ w.heap.size) : EnvAt w' :=
  ⟨h.kinds.below (by omega) hb, by obtain ⟨m, hm⟩ := h.len; exact ⟨m, (hb.cell (p := ⟨1, 0, none⟩) hB).trans hm⟩, by have := hb.size; have := h.pos; omega⟩
theorem EnvAt.next {w w' : World} (h : EnvAt w) (hb : Below w.heap.size w w') : EnvAt w' := h.below h.pos hb (Nat.le_refl _)
theorem EnvAt.split {w : World} (h : EnvAt w) (s : ByteArray) (hs : s.size < 4294967281) : ∀ W, Below w.heap.size w W → SplitIs s (wordsB s) W := by
  intro W hb
  obtain ⟨m, hm⟩ := h.len
  exact psplit s m W hs ((hb.cell (p := ⟨1, 0, none⟩) h.pos).trans hm)
theorem kt1 (w : World) (hE : EnvAt w) : Calls Tryd.prog 9 #[.agg #[.int .i64 8, .int .i64 8], .agg #[.int .i64 8, .int .i64 24, .int .i8 0]] w fun e w' => e = .returned (.tuple #[.string ⟨#[97, 50, 97, 52]⟩, .int .i64 0]) ∧ Below w.heap.size w w' :=
  (ptext_yes 8 8 8 24 0 w hE.kinds (by decide) (by have := hE.pos; omega)).mono fun e w' h => ⟨h.1.trans rfl, h.2⟩
theorem kt2 (w : World) (hE : EnvAt w) : Calls Tryd.prog 9 #[.agg #[.int .i64 8, .int .i64 8], .agg #[.int .i64 48, .int .i64 56, .int .i8 5]] w fun e w' => e = .returned (.tuple #[.string ⟨#[97, 55, 97, 56, 81]⟩, .int .i64 0]) ∧ Below w.heap.size w w' :=
  (ptext_yes 8 8 48 56 5 w hE.kinds (by decide) (by have := hE.pos; omega)).mono fun e w' h => ⟨h.1.trans rfl, h.2⟩
theorem kt3 (w : World) : Calls Tryd.prog 9 #[.agg #[.int .i64 3, .int .i64 3], .agg #[.int .i64 0, .int .i64 0, .int .i8 0]] w fun e w' => e = .returned (.tuple #[.string ⟨#[]⟩, .int .i64 2]) ∧ Below w.heap.size w w' :=
  ptext_no 3 3 0 0 0 w (by decide)
theorem kpar (f r : Int) (s : ByteArray) (ok : Bool) (m : Mv) (w : World) (hs : szB f r = true) (hE : EnvAt w) (hz : s.size ≤ maxLen) (h : mvS f r s = (ok, m)) : Calls Tryd.prog 13 #[.agg #[.int .i64 f, .int .i64 r], .string s] w fun e w' => e = .returned (mres ok m.1 m.2.1 m.2.2) ∧ Below w.heap.size w w' := by
  have := pmp f r s w hs hz hE.kinds (by have := hE.pos; omega)
  rw [h] at this
  exact this
theorem kp1 (w : World) (hE : EnvAt w) : Calls Tryd.prog 13 #[.agg #[.int .i64 8, .int .i64 8], .string ⟨#[104, 50, 104, 49, 78]⟩] w fun e w' => e = .returned (.tuple #[.agg #[.int .i64 15, .int .i64 7, .int .i8 2], .int .i64 0]) ∧ Below w.heap.size w w' := by
  have he : (mvS 8 8 ⟨#[104, 50, 104, 49, 78]⟩).1 = true := by decide +kernel
  have hm : (mvS 8 8 ⟨#[104, 50, 104, 49, 78]⟩).2 = (15, 7, 2) := by decide +kernel
  exact (kpar 8 8 ⟨#[104, 50, 104, 49, 78]⟩ true (15, 7, 2) w (by decide) hE (by decide) (Prod.ext he hm)).mono fun e w' h => ⟨h.1.trans rfl, h.2⟩
theorem kp2 (w : World) (hE : EnvAt w) : Calls Tryd.prog 13 #[.agg #[.int .i64 8, .int .i64 8], .string ⟨#[104, 50, 104, 49, 110]⟩] w fun e w' => e = .returned (.tuple #[.agg #[.int .i64 0, .int .i64 0, .int .i8 0], .int .i64 6]) ∧ Below w.heap.size w w' := by
  have he : (mvS 8 8 ⟨#[104, 50, 104, 49, 110]⟩).1 = false := by decide +kernel
  exact (kpar 8 8 ⟨#[104, 50, 104, 49, 110]⟩ false (mvS 8 8 ⟨#[104, 50, 104, 49, 110]⟩).2 w (by decide) hE (by decide) (Prod.ext he rfl)).mono fun e w' h => ⟨h.1.trans rfl, h.2⟩
theorem kp3 (w : World) (hE : EnvAt w) : Calls Tryd.prog 13 #[.agg #[.int .i64 8, .int .i64 8], .string ⟨#[104, 50, 104, 49, 75]⟩] w fun e w' => e = .returned (.tuple #[.agg #[.int .i64 0, .int .i64 0, .int .i8 0], .int .i64 6]) ∧ Below w.heap.size w w' := by
  have he : (mvS 8 8 ⟨#[104, 50, 104, 49, 75]⟩).1 = false := by decide +kernel
  exact (kpar 8 8 ⟨#[104, 50, 104, 49, 75]⟩ false (mvS 8 8 ⟨#[104, 50, 104, 49, 75]⟩).2 w (by decide) hE (by decide) (Prod.ext he rfl)).mono fun e w' h => ⟨h.1.trans rfl, h.2⟩
theorem kp4 (w : World) (hE : EnvAt w) : Calls Tryd.prog 13 #[.agg #[.int .i64 3, .int .i64 3], .string ⟨#[97, 49, 97, 52]⟩] w fun e w' => e = .returned (.tuple #[.agg #[.int .i64 0, .int .i64 0, .int .i8 0], .int .i64 6]) ∧ Below w.heap.size w w' := by
  have he : (mvS 3 3 ⟨#[97, 49, 97, 52]⟩).1 = false := by decide +kernel
  exact (kpar 3 3 ⟨#[97, 49, 97, 52]⟩ false (mvS 3 3 ⟨#[97, 49, 97, 52]⟩).2 w (by decide) hE (by decide) (Prod.ext he rfl)).mono fun e w' h => ⟨h.1.trans rfl, h.2⟩
theorem kline (b : Nat) (w : World) (hE : EnvAt w) (hb : b < w.heap.size) (h0 : w.cell? ⟨b, 0, none⟩ = some (.int .i64 0)) (h1 : w.cell? ⟨b, 1, none⟩ = some (.int .i64 1)) (h2 : w.cell? ⟨b, 2, none⟩ = some (.int .i8 0)) (h3 : w.cell? ⟨b, 3, none⟩ = some (.int .i64 8)) (h4 : w.cell? ⟨b, 4, none⟩ = some (.int .i64 5)) (h5 : w.cell? ⟨b, 5, none⟩ = some (.int .i8 0)) :
    Calls Tryd.prog 16 #[.agg #[.int .i64 3, .int .i64 3], .slice (some ⟨b, 0, none⟩) 2 2] w fun e w' => e = .returned (.tuple #[.string ⟨#[97, 49, 98, 49, 32, 99, 51, 99, 50]⟩, .int .i64 0]) ∧ Below w.heap.size w w' := by
  have hA : RecAt mEnc 3 w w.heap.size (some ⟨b, 0, none⟩) [((0 : Int), (1 : Int), (0 : Int)), ((8 : Int), (5 : Int), (0 : Int))] := by
    intro _
    refine ⟨b, 0, rfl, hb, fun k x hk j u hu => ?_⟩
    have hk2 : k = 0 ∨ k = 1 := by have := (List.getElem?_eq_some_iff.1 hk).1; simp at this; omega
    rcases hk2 with rfl | rfl
    · obtain rfl := Option.some.inj hk
      have hj : j = 0 ∨ j = 1 ∨ j = 2 := by have := (List.getElem?_eq_some_iff.1 hu).1; rw [mEnc_len] at this; omega
      rcases hj with rfl | rfl | rfl
      · obtain rfl := Option.some.inj hu; exact h0
      · obtain rfl := Option.some.inj hu; exact h1
      · obtain rfl := Option.some.inj hu; exact h2
    · obtain rfl := Option.some.inj hk
      have hj : j = 0 ∨ j = 1 ∨ j = 2 := by have := (List.getElem?_eq_some_iff.1 hu).1; rw [mEnc_len] at this; omega
      rcases hj with rfl | rfl | rfl
      · obtain rfl := Option.some.inj hu; exact h3
      · obtain rfl := Option.some.inj hu; exact h4
      · obtain rfl := Option.some.inj hu; exact h5
  have h := pline_in 3 3 (some ⟨b, 0, none⟩) 2 [((0 : Int), (1 : Int), (0 : Int)), ((8 : Int), (5 : Int), (0 : Int))] w hA hE.kinds (by have := hE.pos; omega) (by decide) (by decide) (by decide +kernel)
  rw [lineV_yes (by decide +kernel)] at h
  have e : joinB ([((0 : Int), (1 : Int), (0 : Int)), ((8 : Int), (5 : Int), (0 : Int))].map (txt 3)) = ⟨#[97, 49, 98, 49, 32, 99, 51, 99, 50]⟩ := by decide +kernel
  rw [e] at h
  exact h
theorem kwords : wordsB ⟨#[97, 49, 98, 49, 32, 32, 99, 51, 99, 50]⟩ = [⟨#[97, 49, 98, 49]⟩, ⟨#[]⟩, ⟨#[99, 51, 99, 50]⟩] := by decide +kernel
theorem kpl (w : World) (hE : EnvAt w) : Calls Tryd.prog 18 #[.agg #[.int .i64 3, .int .i64 3], .string ⟨#[97, 49, 98, 49, 32, 32, 99, 51, 99, 50]⟩] w fun e w' => e = .returned (.tuple #[.slice none 0 0, .int .i64 1, .int .i64 6]) ∧ Below w.heap.size w w' := by
  have hw := hE.split ⟨#[97, 49, 98, 49, 32, 32, 99, 51, 99, 50]⟩ (by decide)
  rw [kwords] at hw
  refine (ppl_in 3 3 ⟨#[97, 49, 98, 49, 32, 32, 99, 51, 99, 50]⟩ _ w (by decide) (by decide) hw (by decide) (by decide) hE.kinds (by have := hE.pos; omega)).mono ?_
  rintro e w' ⟨hp, hb⟩
  refine ⟨?_, hb⟩
  have o0 : okS 3 3 ⟨#[97, 49, 98, 49]⟩ = true := by decide +kernel
  have o1 : okS 3 3 ⟨#[]⟩ = false := by decide +kernel
  rcases hp with ⟨i, t, hi, hlt, hno, he⟩ | ⟨hall, _⟩
  · have hi3 : i = 0 ∨ i = 1 ∨ 1 < i := by omega
    rcases hi3 with rfl | rfl | h2
    · obtain rfl := Option.some.inj hi
      exact absurd (o0.symm.trans hno) (by decide)
    · exact he
    · exact absurd (o1.symm.trans (hlt 1 _ h2 rfl)) (by decide)
  · exact absurd (o1.symm.trans (hall ⟨#[]⟩ (by simp))) (by decide)

/-- the two boxes of the examples -/
structure KB (w W : World) : Prop where
  b0 : W.cell? ⟨w.heap.size, 0, none⟩ = some (.int .i64 8)
  b1 : W.cell? ⟨w.heap.size, 1, none⟩ = some (.int .i64 8)
  c0 : W.cell? ⟨w.heap.size + 1, 0, none⟩ = some (.int .i64 3)
  c1 : W.cell? ⟨w.heap.size + 1, 1, none⟩ = some (.int .i64 3)
  lt : w.heap.size + 1 < W.heap.size
  below : Below w.heap.size w W
  env : EnvAt W
theorem KB.next {w W W' : World} (h : KB w W) (hb : Below W.heap.size W W') : KB w W' :=
  ⟨(hb.cell (p := ⟨w.heap.size, 0, none⟩) (Nat.lt_trans (Nat.lt_succ_self _) h.lt)).trans h.b0, (hb.cell (p := ⟨w.heap.size, 1, none⟩) (Nat.lt_trans (Nat.lt_succ_self _) h.lt)).trans h.b1, (hb.cell (p := ⟨w.heap.size + 1, 0, none⟩) h.lt).trans h.c0, (hb.cell (p := ⟨w.heap.size + 1, 1, none⟩) h.lt).trans h.c1, Nat.lt_of_lt_of_le h.lt hb.size, h.below.trans (hb.mono h.below.size), h.env.next hb⟩
theorem KB.alloc {w W : World} (h : KB w W) (o : Obj) : KB w (W.alloc o) := h.next ((Below.refl _ _).alloc (Nat.le_refl _) o)
theorem KB.first {w : World} (hE : EnvAt w) (t : TypeId) : KB w ((w.alloc (.cells #[.int .i64 8, .int .i64 8] t)).alloc (.cells #[.int .i64 3, .int .i64 3] t)) :=
  ⟨by simp, by simp, by simp, by simp, by simp, below_two _ _ _, hE.next (below_two _ _ _)⟩
set_option maxRecDepth 100000 in
set_option maxHeartbeats 2000000 in
theorem known_7 (w : World) (hE : EnvAt w) : Calls Tryd.prog 11 #[] w fun e w' => e = .returned (.bool true) ∧ Below w.heap.size w w' := by
  have hK := Lib.hid (KB.first hE 23)
  clear hE
  go_enter Tryd.func11, Tryd.ntmps11
  go_upto_region 2 with fail
  generalize (w.alloc (.cells #[.int .i64 8, .int .i64 8] 23)).alloc (.cells #[.int .i64 3, .int .i64 3] 23) = W at *
  have b0 := hK.out.b0
  have b1 := hK.out.b1
  have c0 := hK.out.c0
  have c1 := hK.out.c1
  go_wp2_with fail
  go_at_call 9
  refine (kt1 _ hK.out.env).mono ?_
  rintro e w' ⟨rfl, hb⟩; replace hK := Lib.hid (hK.out.next hb); replace b0 := hK.out.b0; replace b1 := hK.out.b1; replace c0 := hK.out.c0; replace c1 := hK.out.c1; clear hb
  go_wp2_with fail
  go_at_call 9
  refine (kt2 _ hK.out.env).mono ?_
  rintro e w' ⟨rfl, hb⟩; replace hK := Lib.hid (hK.out.next hb); replace b0 := hK.out.b0; replace b1 := hK.out.b1; replace c0 := hK.out.c0; replace c1 := hK.out.c1; clear hb
  go_wp2_with fail
  go_at_call 9
  refine (kt3 _).mono ?_
  rintro e w' ⟨rfl, hb⟩; replace hK := Lib.hid (hK.out.next hb); replace b0 := hK.out.b0; replace b1 := hK.out.b1; replace c0 := hK.out.c0; replace c1 := hK.out.c1; clear hb
  go_wp2_with fail
  go_at_call 13
  refine (kp1 _ hK.out.env).mono ?_
  rintro e w' ⟨rfl, hb⟩; replace hK := Lib.hid (hK.out.next hb); replace b0 := hK.out.b0; replace b1 := hK.out.b1; replace c0 := hK.out.c0; replace c1 := hK.out.c1; clear hb
  go_upto_region 8 with fail
  have hT := Lib.hid (tri_new w' w'.heap.size (.int .i64 15) (.int .i64 7) (.int .i8 2) 27 rfl)
  replace hK := Lib.hid (hK.out.alloc (.cells #[.int .i64 15, .int .i64 7, .int .i8 2] 27))
  generalize hB9 : w'.heap.size = B9 at *
  generalize w'.alloc (.cells #[.int .i64 15, .int .i64 7, .int .i8 2] 27) = W8 at *
  clear hB9
  replace b0 := hK.out.b0
  replace b1 := hK.out.b1
  replace c0 := hK.out.c0
  replace c1 := hK.out.c1
  have k0 := hT.out.c0
  have k1 := hT.out.c1
  have k2 := hT.out.c2
  go_wp2_with fail
  go_at_call 13
  refine (kp2 _ hK.out.env).mono ?_
  rintro e w' ⟨rfl, hb⟩; replace hK := Lib.hid (hK.out.next hb); replace b0 := hK.out.b0; replace b1 := hK.out.b1; replace c0 := hK.out.c0; replace c1 := hK.out.c1; replace hT := Lib.hid (hT.out.next hb); replace k0 := hT.out.c0; replace k1 := hT.out.c1; replace k2 := hT.out.c2; clear hb
  go_wp2_with fail
  go_at_call 13
  refine (kp3 _ hK.out.env).mono ?_
  rintro e w' ⟨rfl, hb⟩; replace hK := Lib.hid (hK.out.next hb); replace b0 := hK.out.b0; replace b1 := hK.out.b1; replace c0 := hK.out.c0; replace c1 := hK.out.c1; replace hT := Lib.hid (hT.out.next hb); replace k0 := hT.out.c0; replace k1 := hT.out.c1; replace k2 := hT.out.c2; clear hb
  go_wp2_with fail
  go_at_call 13
  refine (kp4 _ hK.out.env).mono ?_
  rintro e w' ⟨rfl, hb⟩; replace hK := Lib.hid (hK.out.next hb); replace b0 := hK.out.b0; replace b1 := hK.out.b1; replace c0 := hK.out.c0; replace c1 := hK.out.c1; replace hT := Lib.hid (hT.out.next hb); replace k0 := hT.out.c0; replace k1 := hT.out.c1; replace k2 := hT.out.c2; clear hb
  go_upto_region 11 with fail
  replace hT := Lib.hid (hT.out.alloc (.cells #[.int .i64 0, .int .i64 0, .int .i8 0] 27))
  replace hK := Lib.hid (hK.out.alloc (.cells #[.int .i64 0, .int .i64 0, .int .i8 0] 27))
  generalize w'.alloc (.cells #[.int .i64 0, .int .i64 0, .int .i8 0] 27) = W11 at *
  replace b0 := hK.out.b0
  replace b1 := hK.out.b1
  replace c0 := hK.out.c0
  replace c1 := hK.out.c1
  replace k0 := hT.out.c0
  replace k1 := hT.out.c1
  replace k2 := hT.out.c2
  go_wp2_with fail
  go_at_call 16
  refine (kline _ _ (hK.out.alloc _).env (by simp) (by simp) (by simp) (by simp) (by simp) (by simp) (by simp)).mono ?_
  rintro e w' ⟨rfl, hb⟩
  replace hK := Lib.hid ((hK.out.alloc _).next hb); replace b0 := hK.out.b0; replace b1 := hK.out.b1; replace c0 := hK.out.c0; replace c1 := hK.out.c1; clear hb k0 k1 k2 hT
  go_wp2_with fail
  go_at_call 18
  refine (kpl _ hK.out.env).mono ?_
  rintro e w' ⟨rfl, hb⟩; replace hK := Lib.hid (hK.out.next hb); replace b0 := hK.out.b0; replace b1 := hK.out.b1; replace c0 := hK.out.c0; replace c1 := hK.out.c1; clear hb
  go_wp2_with fail
  go_at_call 18
  refine (ppl_nil 3 3 _ (by decide)).mono ?_
  rintro e w' ⟨rfl, hb⟩; replace hK := Lib.hid (hK.out.next hb); replace b0 := hK.out.b0; replace b1 := hK.out.b1; replace c0 := hK.out.c0; replace c1 := hK.out.c1; clear hb
  go_wp2
  go_ret
  exact ⟨rfl, hK.out.below⟩
end Go.Proofs.YtlnphcdanadaeaaDoor
