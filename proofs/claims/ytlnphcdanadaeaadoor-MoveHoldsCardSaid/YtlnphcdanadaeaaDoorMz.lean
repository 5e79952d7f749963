/- Layer 7: the law MoveHolds. -/
import Derived.Test.YtlnphcdanadaeaaDoorMy
import Derived.Test.YtlnphcdanadaeaaDoorMm
import Derived.Test.YtlnphcdanadaeaaDoorMb
namespace Go.Proofs.YtlnphcdanadaeaaDoor
open Go.RowKit
set_option linter.unusedSimpArgs false
set_option linter.unusedVariables false

/-- the four boxes of the law: the size, three moves -/
structure HB (f r a b p a' b' p' a2 b2 p2 : Int) (w W : World) : Prop where
  c0 : W.cell? ⟨w.heap.size, 0, none⟩ = some (.int .i64 f)
  c1 : W.cell? ⟨w.heap.size, 1, none⟩ = some (.int .i64 r)
  m0 : W.cell? ⟨w.heap.size + 1, 0, none⟩ = some (.int .i64 a)
  m1 : W.cell? ⟨w.heap.size + 1, 1, none⟩ = some (.int .i64 b)
  m2 : W.cell? ⟨w.heap.size + 1, 2, none⟩ = some (.int .i8 p)
  n0 : W.cell? ⟨w.heap.size + 1 + 1, 0, none⟩ = some (.int .i64 a')
  n1 : W.cell? ⟨w.heap.size + 1 + 1, 1, none⟩ = some (.int .i64 b')
  n2 : W.cell? ⟨w.heap.size + 1 + 1, 2, none⟩ = some (.int .i8 p')
  o0 : W.cell? ⟨w.heap.size + 1 + 1 + 1, 0, none⟩ = some (.int .i64 a2)
  o1 : W.cell? ⟨w.heap.size + 1 + 1 + 1, 1, none⟩ = some (.int .i64 b2)
  o2 : W.cell? ⟨w.heap.size + 1 + 1 + 1, 2, none⟩ = some (.int .i8 p2)
  lt : w.heap.size + 1 + 1 + 1 < W.heap.size
  below : Below w.heap.size w W
section
variable {f r a b p a' b' p' a2 b2 p2 : Int} {w W W' : World}
theorem HB.next (h : HB f r a b p a' b' p' a2 b2 p2 w W) (hb : Below W.heap.size W W') : HB f r a b p a' b' p' a2 b2 p2 w W' := by
  have hl := h.lt
  exact ⟨(hb.cell (p := ⟨w.heap.size, 0, none⟩) (by show w.heap.size < _; omega)).trans h.c0, (hb.cell (p := ⟨w.heap.size, 1, none⟩) (by show w.heap.size < _; omega)).trans h.c1,
    (hb.cell (p := ⟨w.heap.size + 1, 0, none⟩) (by show w.heap.size + 1 < _; omega)).trans h.m0, (hb.cell (p := ⟨w.heap.size + 1, 1, none⟩) (by show w.heap.size + 1 < _; omega)).trans h.m1, (hb.cell (p := ⟨w.heap.size + 1, 2, none⟩) (by show w.heap.size + 1 < _; omega)).trans h.m2,
    (hb.cell (p := ⟨w.heap.size + 1 + 1, 0, none⟩) (by show w.heap.size + 1 + 1 < _; omega)).trans h.n0, (hb.cell (p := ⟨w.heap.size + 1 + 1, 1, none⟩) (by show w.heap.size + 1 + 1 < _; omega)).trans h.n1, (hb.cell (p := ⟨w.heap.size + 1 + 1, 2, none⟩) (by show w.heap.size + 1 + 1 < _; omega)).trans h.n2,
    (hb.cell (p := ⟨w.heap.size + 1 + 1 + 1, 0, none⟩) (by show w.heap.size + 1 + 1 + 1 < _; omega)).trans h.o0, (hb.cell (p := ⟨w.heap.size + 1 + 1 + 1, 1, none⟩) (by show w.heap.size + 1 + 1 + 1 < _; omega)).trans h.o1, (hb.cell (p := ⟨w.heap.size + 1 + 1 + 1, 2, none⟩) (by show w.heap.size + 1 + 1 + 1 < _; omega)).trans h.o2,
    by have := hb.size; omega, h.below.trans (hb.mono h.below.size)⟩
theorem HB.first (f r a b p a' b' p' a2 b2 p2 : Int) (w : World) (t t2 t3 t4 : TypeId) : HB f r a b p a' b' p' a2 b2 p2 w ((((w.alloc (.cells #[.int .i64 f, .int .i64 r] t)).alloc (.cells #[.int .i64 a, .int .i64 b, .int .i8 p] t2)).alloc (.cells #[.int .i64 a', .int .i64 b', .int .i8 p'] t3)).alloc (.cells #[.int .i64 a2, .int .i64 b2, .int .i8 p2] t4)) := by
  have hM := VB.first f r a b p a' b' p' w t t2 t3
  generalize hW : ((w.alloc (.cells #[.int .i64 f, .int .i64 r] t)).alloc (.cells #[.int .i64 a, .int .i64 b, .int .i8 p] t2)).alloc (.cells #[.int .i64 a', .int .i64 b', .int .i8 p'] t3) = W2 at hM ⊢
  have hs : W2.heap.size = w.heap.size + 1 + 1 + 1 := by rw [← hW, World.size_alloc, World.size_alloc, World.size_alloc]
  have hT := tri_new W2 (w.heap.size + 1 + 1 + 1) (.int .i64 a2) (.int .i64 b2) (.int .i8 p2) t4 hs.symm
  have hb : Below W2.heap.size W2 (W2.alloc (.cells #[.int .i64 a2, .int .i64 b2, .int .i8 p2] t4)) := (Below.refl _ _).alloc (Nat.le_refl _) _
  have hM2 := hM.next hb
  exact ⟨hM2.c0, hM2.c1, hM2.m0, hM2.m1, hM2.m2, hM2.n0, hM2.n1, hM2.n2, hT.c0, hT.c1, hT.c2, hT.lt, hM2.below⟩
end
/-- ParseLine at the text of any list of valid moves -/
theorem ppl_any (f r : Int) (l : List Mv) (w : World) (hE : EnvAt w) (h : szB f r = true) (hl : l.length ≤ 1000) (hall : ∀ m, m ∈ l → okM f r m = true) :
    Calls Tryd.prog 18 #[.agg #[.int .i64 f, .int .i64 r], .string (joinB (l.map (txt f)))] w fun e w' => (∃ A c, e = .returned (.tuple #[.slice A l.length c, .int .i64 0, .int .i64 0]) ∧ RecAt mEnc 3 w' w'.heap.size A l) ∧ Below w.heap.size w w' := by
  by_cases h0 : l = []
  · subst h0
    refine (ppl_nil f r w h).mono ?_
    rintro e w' ⟨rfl, hb⟩
    exact ⟨⟨none, 0, rfl, RecAt.nil⟩, hb⟩
  · exact ppl_line f r l w hE h h0 hl hall
/-- what ParseLine returns at a text -/
def TP (f r : Int) (s : ByteArray) (e : Ending) (w' : World) : Prop :=
  ∃ (A : Option Addr) (c : Nat) (k : List Mv) (i E : Int), e = .returned (.tuple #[.slice A k.length c, .int .i64 i, .int .i64 E]) ∧ RecAt mEnc 3 w' w'.heap.size A k ∧ (E = 6 ∨ (E = 0 ∧ k.length ≤ 1000 ∧ lineOk f r k = true ∧ joinB (k.map (txt f)) = s))
theorem ppl_text (f r : Int) (s : ByteArray) (w : World) (hE : EnvAt w) (h : szB f r = true) (hs : s.size ≤ 300) :
    Calls Tryd.prog 18 #[.agg #[.int .i64 f, .int .i64 r], .string s] w fun e w' => TP f r s e w' ∧ Below w.heap.size w w' := by
  by_cases h0 : s = ⟨#[]⟩
  · subst h0
    refine (ppl_nil f r w h).mono ?_
    rintro e w' ⟨rfl, hb⟩
    exact ⟨⟨none, 0, [], 0, 0, rfl, RecAt.nil, .inr ⟨rfl, by decide, lineOk_mk h (by decide) (fun m hm => absurd hm (by simp)), rfl⟩⟩, hb⟩
  · have hwl : (wordsB s).length ≤ 301 := by rw [wordsB_len]; have := Lib.countB_le sp (by decide) _ s (Nat.le_refl _); omega
    refine (ppl_in f r s (wordsB s) w h h0 (hE.split s (by omega)) (by omega) (fun t ht => ?_) hE.kinds (by have := hE.pos; omega)).mono ?_
    · have := words_size ht
      unfold maxLen; omega
    · rintro e w' ⟨hp, hb⟩
      refine ⟨?_, hb⟩
      rcases hp with ⟨i, t, _, _, _, rfl⟩ | ⟨hall, A, c, rfl, hr⟩
      · exact ⟨none, 0, [], i, 6, rfl, RecAt.nil, .inl rfl⟩
      · have hb2 : ∀ t, t ∈ wordsB s → okM f r (mvOf f r t) = true ∧ txt f (mvOf f r t) = t := by
          intro t ht
          have h5 := hall t ht
          obtain ⟨ok, x, y, z, hv⟩ : ∃ ok x y z, mvS f r t = (ok, x, y, z) := ⟨_, _, _, _, rfl⟩
          unfold okS at h5
          rw [hv] at h5
          obtain rfl : ok = true := h5
          have h6 : mvOf f r t = (x, y, z) := by unfold mvOf; rw [hv]
          rw [h6]
          exact mvT_mvS hv
        refine ⟨A, c, (wordsB s).map (mvOf f r), 0, 0, rfl, hr, .inr ⟨rfl, by rw [List.length_map]; omega, lineOk_mk h (by rw [List.length_map]; omega) (fun m hm => ?_), ?_⟩⟩
        · obtain ⟨t, ht, rfl⟩ := List.mem_map.1 hm
          exact (hb2 t ht).1
        · have e5 : (wordsB s).map (txt f ∘ mvOf f r) = (wordsB s).map id := List.map_congr_left fun t ht => (hb2 t ht).2
          rw [List.map_map, e5, List.map_id, joinB_words]
/-- what Text says -/
def txS (f r a b p : Int) : ByteArray := if mvB f r a b p then mvT f a b p else ⟨#[]⟩
def txE (f r a b p : Int) : Int := if mvB f r a b p then 0 else 2
theorem ptext_tot (f r a b p : Int) (w : World) (hE : EnvAt w) : Calls Tryd.prog 9 #[.agg #[.int .i64 f, .int .i64 r], .agg #[.int .i64 a, .int .i64 b, .int .i8 p]] w fun e w' => e = .returned (.tuple #[.string (txS f r a b p), .int .i64 (txE f r a b p)]) ∧ Below w.heap.size w w' := by
  unfold txS txE
  rcases h : mvB f r a b p with _ | _
  · exact ptext_no f r a b p w h
  · exact ptext_yes f r a b p w hE.kinds h (by have := hE.pos; omega)
theorem cmpV_le (a b p a' b' p' : Int) : -1 ≤ cmpV a b p a' b' p' ∧ cmpV a b p a' b' p' ≤ 1 := by
  unfold cmpV ordV
  repeat' split
  all_goals omega
set_option maxRecDepth 100000 in
theorem holds_out (f r : Int) (A : Option Addr) (c : Nat) (l : List Mv) (s : ByteArray) (a b p a' b' p' a2 b2 p2 : Int) (w : World) (hE : EnvAt w) (h : szB f r = false ∨ (szB f r = true ∧ 40 < l.length ∧ l.length ≤ maxLen) ∨ (szB f r = true ∧ l.length ≤ 40 ∧ 300 < s.size ∧ s.size ≤ maxLen)) : Calls Tryd.prog 8 #[.agg #[.int .i64 f, .int .i64 r], .slice A l.length c, .string s, .agg #[.int .i64 a, .int .i64 b, .int .i8 p], .agg #[.int .i64 a', .int .i64 b', .int .i8 p'], .agg #[.int .i64 a2, .int .i64 b2, .int .i8 p2]] w fun e w' => e = .returned (.bool true) ∧ Below w.heap.size w w' := by
  have hK := Lib.hid (HB.first f r a b p a' b' p' a2 b2 p2 w 23 27 27 27)
  have c0 := hK.out.c0
  have c1 := hK.out.c1
  have m0 := hK.out.m0
  have m1 := hK.out.m1
  have m2 := hK.out.m2
  have n0 := hK.out.n0
  have n1 := hK.out.n1
  have n2 := hK.out.n2
  have o0 := hK.out.o0
  have o1 := hK.out.o1
  have o2 := hK.out.o2
  have hEW : Hid (∀ W, Below w.heap.size w W → EnvAt W) := fun W hb => hE.next hb
  clear hE
  rcases h with h | ⟨h, h1, h2⟩ | ⟨h, h1, h2, h3⟩
  · go_enter Tryd.func8, Tryd.ntmps8
    go_wp2_with (first
      | (go_at_call 14; refine (rsize _ _ _).mono ?_; rintro e w0 ⟨rfl, hbw⟩; rw [h]; replace hK := Lib.hid (hK.out.next hbw); replace c0 := hK.out.c0; replace c1 := hK.out.c1; replace m0 := hK.out.m0; replace m1 := hK.out.m1; replace m2 := hK.out.m2; replace n0 := hK.out.n0; replace n1 := hK.out.n1; replace n2 := hK.out.n2; replace o0 := hK.out.o0; replace o1 := hK.out.o1; replace o2 := hK.out.o2; clear hbw)
      | (go_at_call 11; refine (known_7 _ (hEW.out _ hK.out.below)).mono ?_; rintro e w9 ⟨rfl, hbw⟩; replace hK := Lib.hid (hK.out.next hbw); replace c0 := hK.out.c0; replace c1 := hK.out.c1; replace m0 := hK.out.m0; replace m1 := hK.out.m1; replace m2 := hK.out.m2; replace n0 := hK.out.n0; replace n1 := hK.out.n1; replace n2 := hK.out.n2; replace o0 := hK.out.o0; replace o1 := hK.out.o1; replace o2 := hK.out.o2; clear hbw))
    go_ret
    exact ⟨rfl, hK.out.below⟩
  · unfold maxLen at h2
    have hgt : (40 : Int) < (l.length : Int) := by omega
    go_enter Tryd.func8, Tryd.ntmps8
    go_wp2_with (first
      | (go_at_call 14; refine (rsize _ _ _).mono ?_; rintro e w0 ⟨rfl, hbw⟩; rw [h]; replace hK := Lib.hid (hK.out.next hbw); replace c0 := hK.out.c0; replace c1 := hK.out.c1; replace m0 := hK.out.m0; replace m1 := hK.out.m1; replace m2 := hK.out.m2; replace n0 := hK.out.n0; replace n1 := hK.out.n1; replace n2 := hK.out.n2; replace o0 := hK.out.o0; replace o1 := hK.out.o1; replace o2 := hK.out.o2; clear hbw)
      | (go_at_call 11; refine (known_7 _ (hEW.out _ hK.out.below)).mono ?_; rintro e w9 ⟨rfl, hbw⟩; replace hK := Lib.hid (hK.out.next hbw); replace c0 := hK.out.c0; replace c1 := hK.out.c1; replace m0 := hK.out.m0; replace m1 := hK.out.m1; replace m2 := hK.out.m2; replace n0 := hK.out.n0; replace n1 := hK.out.n1; replace n2 := hK.out.n2; replace o0 := hK.out.o0; replace o1 := hK.out.o1; replace o2 := hK.out.o2; clear hbw))
    go_ret
    exact ⟨rfl, hK.out.below⟩
  · unfold maxLen at h3
    have hgt : ((40 : Int) < (l.length : Int)) = False := by rw [eq_iff_iff, iff_false]; omega
    have hgs : (300 : Int) < (s.size : Int) := by omega
    go_enter Tryd.func8, Tryd.ntmps8
    go_wp2_with (first
      | (go_at_call 14; refine (rsize _ _ _).mono ?_; rintro e w0 ⟨rfl, hbw⟩; rw [h]; replace hK := Lib.hid (hK.out.next hbw); replace c0 := hK.out.c0; replace c1 := hK.out.c1; replace m0 := hK.out.m0; replace m1 := hK.out.m1; replace m2 := hK.out.m2; replace n0 := hK.out.n0; replace n1 := hK.out.n1; replace n2 := hK.out.n2; replace o0 := hK.out.o0; replace o1 := hK.out.o1; replace o2 := hK.out.o2; clear hbw)
      | (go_at_call 11; refine (known_7 _ (hEW.out _ hK.out.below)).mono ?_; rintro e w9 ⟨rfl, hbw⟩; replace hK := Lib.hid (hK.out.next hbw); replace c0 := hK.out.c0; replace c1 := hK.out.c1; replace m0 := hK.out.m0; replace m1 := hK.out.m1; replace m2 := hK.out.m2; replace n0 := hK.out.n0; replace n1 := hK.out.n1; replace n2 := hK.out.n2; replace o0 := hK.out.o0; replace o1 := hK.out.o1; replace o2 := hK.out.o2; clear hbw))
    go_ret
    exact ⟨rfl, hK.out.below⟩
set_option maxRecDepth 100000 in
set_option maxHeartbeats 4000000 in
theorem holds_in (f r : Int) (A : Option Addr) (c : Nat) (l : List Mv) (s : ByteArray) (a b p a' b' p' a2 b2 p2 : Int) (w : World) (hE : EnvAt w) (hA : RecAt mEnc 3 w w.heap.size A l) (h : szB f r = true) (hl : l.length ≤ 40) (hs : s.size ≤ 300) : Calls Tryd.prog 8 #[.agg #[.int .i64 f, .int .i64 r], .slice A l.length c, .string s, .agg #[.int .i64 a, .int .i64 b, .int .i8 p], .agg #[.int .i64 a', .int .i64 b', .int .i8 p'], .agg #[.int .i64 a2, .int .i64 b2, .int .i8 p2]] w fun e w' => e = .returned (.bool true) ∧ Below w.heap.size w w' := by
  have hK := Lib.hid (HB.first f r a b p a' b' p' a2 b2 p2 w 23 27 27 27)
  have c0 := hK.out.c0
  have c1 := hK.out.c1
  have m0 := hK.out.m0
  have m1 := hK.out.m1
  have m2 := hK.out.m2
  have n0 := hK.out.n0
  have n1 := hK.out.n1
  have n2 := hK.out.n2
  have o0 := hK.out.o0
  have o1 := hK.out.o1
  have o2 := hK.out.o2
  have hEW : Hid (∀ W, Below w.heap.size w W → EnvAt W) := fun W hb => hE.next hb
  have hAW : Hid (∀ W, Below w.heap.size w W → RecAt mEnc 3 W W.heap.size A l) := fun W hb => (hA.below (Nat.le_refl _) hb).more hb.size
  have hgt : ((40 : Int) < (l.length : Int)) = False := by rw [eq_iff_iff, iff_false]; omega
  have hgs : ((300 : Int) < (s.size : Int)) = False := by rw [eq_iff_iff, iff_false]; omega
  obtain ⟨LS, hLS⟩ : ∃ s, lineS f r l = s := ⟨_, rfl⟩
  obtain ⟨LE, hLE⟩ : ∃ s, lineE f r l = s := ⟨_, rfl⟩
  have hpl : Hid (∀ W, Below w.heap.size w W → Calls Tryd.prog 16 #[.agg #[.int .i64 f, .int .i64 r], .slice A l.length c] W fun e w' => e = .returned (.tuple #[.string LS, .int .i64 LE]) ∧ Below W.heap.size W w') := fun W hb => by
    rw [← hLS, ← hLE]
    exact pline_tot f r A c l W (hAW.out W hb) (hEW.out W hb) (by omega)
  have htp : Hid (∀ W, Below w.heap.size w W → Calls Tryd.prog 18 #[.agg #[.int .i64 f, .int .i64 r], .string s] W fun e w' => TP f r s e w' ∧ Below W.heap.size W w') := fun W hb => ppl_text f r s W (hEW.out W hb) h hs
  replace hLS := Lib.hid hLS
  replace hLE := Lib.hid hLE
  have hlH := Lib.hid hl
  have hsH := Lib.hid hs
  clear hE hA hs
  go_enter Tryd.func8, Tryd.ntmps8
  go_upto_if 52 with (first
    | (go_at_call 14; refine (rsize _ _ _).mono ?_; rintro e w0 ⟨rfl, hbw⟩; rw [h]; replace hK := Lib.hid (hK.out.next hbw); replace c0 := hK.out.c0; replace c1 := hK.out.c1; replace m0 := hK.out.m0; replace m1 := hK.out.m1; replace m2 := hK.out.m2; replace n0 := hK.out.n0; replace n1 := hK.out.n1; replace n2 := hK.out.n2; replace o0 := hK.out.o0; replace o1 := hK.out.o1; replace o2 := hK.out.o2; clear hbw)
    | (go_at_call 16; refine (hpl.out _ hK.out.below).mono ?_; rintro e w1 ⟨rfl, hbw⟩; replace hK := Lib.hid (hK.out.next hbw); replace c0 := hK.out.c0; replace c1 := hK.out.c1; replace m0 := hK.out.m0; replace m1 := hK.out.m1; replace m2 := hK.out.m2; replace n0 := hK.out.n0; replace n1 := hK.out.n1; replace n2 := hK.out.n2; replace o0 := hK.out.o0; replace o1 := hK.out.o1; replace o2 := hK.out.o2; clear hbw))
  go_cut [] from 15 to 71 (fun wc => Hid (HB f r a b p a' b' p' a2 b2 p2 w wc))
  case first =>
    rcases hok : lineOk f r l with _ | _
    · have e2 : LE = 2 := by rw [← hLE.out]; unfold lineE; rw [hok]; rfl
      subst e2
      replace hok := Lib.hid hok
      go_wp2_with fail
      go_meet
      exact hK
    · obtain ⟨hsz, hall⟩ := lineOk_all hok
      have e1 : LS = joinB (l.map (txt f)) := by rw [← hLS.out]; unfold lineS; rw [hok]; rfl
      have e2 : LE = 0 := by rw [← hLE.out]; unfold lineE; rw [hok]; rfl
      have hpp : Hid (∀ W, Below w.heap.size w W → Calls Tryd.prog 18 #[.agg #[.int .i64 f, .int .i64 r], .string LS] W fun e w' => (∃ A c, e = .returned (.tuple #[.slice A l.length c, .int .i64 0, .int .i64 0]) ∧ RecAt mEnc 3 w' w'.heap.size A l) ∧ Below W.heap.size W w') := fun W hb => by
        rw [e1]
        exact ppl_any f r l W (hEW.out W hb) h (by omega) hall
      subst e2
      replace hok := Lib.hid hok
      replace hsz := Lib.hid hsz
      replace e1 := Lib.hid e1
      clear hall
      go_wp2_with (go_at_call 18; refine (hpp.out _ hK.out.below).mono ?_; rintro e w3 ⟨⟨A5, c5, rfl, hr6⟩, hbw⟩; replace hr6 := Lib.hid hr6; replace hK := Lib.hid (hK.out.next hbw); replace c0 := hK.out.c0; replace c1 := hK.out.c1; replace m0 := hK.out.m0; replace m1 := hK.out.m1; replace m2 := hK.out.m2; replace n0 := hK.out.n0; replace n1 := hK.out.n1; replace n2 := hK.out.n2; replace o0 := hK.out.o0; replace o1 := hK.out.o1; replace o2 := hK.out.o2; clear hbw)
      go_at_call 19
      refine (rsame A5 A c5 c l l _ hr6.out (hAW.out _ hK.out.below) (by have := hlH.out; omega) (by have := hlH.out; omega)).mono ?_
      rintro e w8 ⟨rfl, hbw⟩
      rw [decide_eq_true (rfl : l = l)]
      replace hK := Lib.hid (hK.out.next hbw); replace c0 := hK.out.c0; replace c1 := hK.out.c1; replace m0 := hK.out.m0; replace m1 := hK.out.m1; replace m2 := hK.out.m2; replace n0 := hK.out.n0; replace n1 := hK.out.n1; replace n2 := hK.out.n2; replace o0 := hK.out.o0; replace o1 := hK.out.o1; replace o2 := hK.out.o2; clear hbw
      go_wp2_with fail
      go_meet
      exact hK
  case rest =>
    clear hpl hLS hLE hAW hK
    replace hK := Lib.hid hcut.out
    clear hcut
    replace c0 := hK.out.c0
    replace c1 := hK.out.c1
    replace m0 := hK.out.m0
    replace m1 := hK.out.m1
    replace m2 := hK.out.m2
    replace n0 := hK.out.n0
    replace n1 := hK.out.n1
    replace n2 := hK.out.n2
    replace o0 := hK.out.o0
    replace o1 := hK.out.o1
    replace o2 := hK.out.o2
    go_upto_if 80 with (go_at_call 18; refine (htp.out _ hK.out.below).mono ?_; rintro e w1 ⟨⟨A5, c5, k5, i5, E5, rfl, hr5, hE5⟩, hbw⟩; replace hr5 := Lib.hid hr5; replace hE5 := Lib.hid hE5; have hT := Lib.hid (Below.refl w1.heap.size w1); replace hK := Lib.hid (hK.out.next hbw); replace c0 := hK.out.c0; replace c1 := hK.out.c1; replace m0 := hK.out.m0; replace m1 := hK.out.m1; replace m2 := hK.out.m2; replace n0 := hK.out.n0; replace n1 := hK.out.n1; replace n2 := hK.out.n2; replace o0 := hK.out.o0; replace o1 := hK.out.o1; replace o2 := hK.out.o2; clear hbw)
    go_cut [] from 21 to 93 (fun wc => Hid (HB f r a b p a' b' p' a2 b2 p2 w wc))
    case first =>
      rcases hE5.out with rfl | ⟨rfl, hl5, hok5, hj5⟩
      · go_wp2_with fail
        go_meet
        exact hK
      · have e1 : lineS f r k5 = s := by unfold lineS; rw [hok5]; exact hj5
        have e2 : lineE f r k5 = 0 := by unfold lineE; rw [hok5]; rfl
        have hp5 := pline_tot f r A5 c5 k5 w1 hr5.out (hEW.out _ hK.out.below) hl5
        rw [e1, e2] at hp5
        replace hp5 := Lib.hid hp5
        replace hok5 := Lib.hid hok5
        replace hj5 := Lib.hid hj5
        clear e1 e2
        go_wp2_with (go_at_call 16; refine hp5.out.mono ?_; rintro e w3 ⟨rfl, hbw⟩; replace hK := Lib.hid (hK.out.next hbw); replace c0 := hK.out.c0; replace c1 := hK.out.c1; replace m0 := hK.out.m0; replace m1 := hK.out.m1; replace m2 := hK.out.m2; replace n0 := hK.out.n0; replace n1 := hK.out.n1; replace n2 := hK.out.n2; replace o0 := hK.out.o0; replace o1 := hK.out.o1; replace o2 := hK.out.o2; clear hbw)
        go_meet
        exact hK
    case rest =>
      clear hr5 hE5 hT hK
      replace hK := Lib.hid hcut.out
      clear hcut htp
      replace c0 := hK.out.c0
      replace c1 := hK.out.c1
      replace m0 := hK.out.m0
      replace m1 := hK.out.m1
      replace m2 := hK.out.m2
      replace n0 := hK.out.n0
      replace n1 := hK.out.n1
      replace n2 := hK.out.n2
      replace o0 := hK.out.o0
      replace o1 := hK.out.o1
      replace o2 := hK.out.o2
      obtain ⟨T, hT⟩ : ∃ T, txS f r a b p = T := ⟨_, rfl⟩
      obtain ⟨TE, hTE⟩ : ∃ T, txE f r a b p = T := ⟨_, rfl⟩
      have htx : Hid (∀ W, Below w.heap.size w W → Calls Tryd.prog 9 #[.agg #[.int .i64 f, .int .i64 r], .agg #[.int .i64 a, .int .i64 b, .int .i8 p]] W fun e w' => e = .returned (.tuple #[.string T, .int .i64 TE]) ∧ Below W.heap.size W w') := fun W hb => by
        rw [← hT, ← hTE]
        exact ptext_tot f r a b p W (hEW.out W hb)
      replace hT := Lib.hid hT
      replace hTE := Lib.hid hTE
      go_upto_if 101 with (go_at_call 9; refine (htx.out _ hK.out.below).mono ?_; rintro e w1 ⟨rfl, hbw⟩; replace hK := Lib.hid (hK.out.next hbw); replace c0 := hK.out.c0; replace c1 := hK.out.c1; replace m0 := hK.out.m0; replace m1 := hK.out.m1; replace m2 := hK.out.m2; replace n0 := hK.out.n0; replace n1 := hK.out.n1; replace n2 := hK.out.n2; replace o0 := hK.out.o0; replace o1 := hK.out.o1; replace o2 := hK.out.o2; clear hbw)
      go_cut [] from 25 to 114 (fun wc => Hid (HB f r a b p a' b' p' a2 b2 p2 w wc))
      case first =>
        rcases hv : mvB f r a b p with _ | _
        · have e2 : TE = 2 := by rw [← hTE.out]; unfold txE; rw [hv]; rfl
          subst e2
          replace hv := Lib.hid hv
          go_wp2_with fail
          go_meet
          exact hK
        · have e1 : T = mvT f a b p := by rw [← hT.out]; unfold txS; rw [hv]; rfl
          have e2 : TE = 0 := by rw [← hTE.out]; unfold txE; rw [hv]; rfl
          have hpm : Hid (∀ W, Below w.heap.size w W → Calls Tryd.prog 13 #[.agg #[.int .i64 f, .int .i64 r], .string T] W fun e w' => e = .returned (mres true a b p) ∧ Below W.heap.size W w') := fun W hb => by
            have hW := hEW.out W hb
            have hTs : T.size ≤ maxLen := by rw [e1]; have h9 : (mvT f a b p).size ≤ 5 := txt_size f (a, b, p); unfold maxLen; omega
            have h5 := pmp f r T W h hTs hW.kinds (by have := hW.pos; omega)
            rw [e1, mvS_mvT hv, ← e1] at h5
            exact h5
          subst e2
          replace hv := Lib.hid hv
          replace e1 := Lib.hid e1
          go_wp2_with (go_at_call 13; refine (hpm.out _ hK.out.below).mono ?_; rintro e w3 ⟨rfl, hbw⟩; rw [mres_t]; replace hK := Lib.hid (hK.out.next hbw); replace c0 := hK.out.c0; replace c1 := hK.out.c1; replace m0 := hK.out.m0; replace m1 := hK.out.m1; replace m2 := hK.out.m2; replace n0 := hK.out.n0; replace n1 := hK.out.n1; replace n2 := hK.out.n2; replace o0 := hK.out.o0; replace o1 := hK.out.o1; replace o2 := hK.out.o2; clear hbw; have hK5 := Lib.hid (hK.out.next ((Below.refl _ _).alloc (Nat.le_refl _) (.cells #[.int .i64 a, .int .i64 b, .int .i8 p] 27))); have q0 := hK5.out.m0; have q1 := hK5.out.m1; have q2 := hK5.out.m2; have hT5 := Lib.hid (tri_new w3 w3.heap.size (.int .i64 a) (.int .i64 b) (.int .i8 p) 27 rfl); have k0 := hT5.out.c0; have k1 := hT5.out.c1; have k2 := hT5.out.c2)
          go_meet
          exact hK5
      case rest =>
        clear hT hTE htx hK
        replace hK := Lib.hid hcut.out
        clear hcut
        replace c0 := hK.out.c0
        replace c1 := hK.out.c1
        replace m0 := hK.out.m0
        replace m1 := hK.out.m1
        replace m2 := hK.out.m2
        replace n0 := hK.out.n0
        replace n1 := hK.out.n1
        replace n2 := hK.out.n2
        replace o0 := hK.out.o0
        replace o1 := hK.out.o1
        replace o2 := hK.out.o2
        obtain ⟨C1, hC1⟩ : ∃ C, cmpV a b p a' b' p' = C := ⟨_, rfl⟩
        obtain ⟨C2, hC2⟩ : ∃ C, cmpV a' b' p' a b p = C := ⟨_, rfl⟩
        obtain ⟨C3, hC3⟩ : ∃ C, cmpV a' b' p' a2 b2 p2 = C := ⟨_, rfl⟩
        obtain ⟨C4, hC4⟩ : ∃ C, cmpV a b p a2 b2 p2 = C := ⟨_, rfl⟩
        have q12 : C1 = - C2 := by rw [← hC1, ← hC2]; exact cmpV_neg _ _ _ _ _ _
        have qz : C1 = 0 ↔ a = a' ∧ b = b' ∧ p = p' := by rw [← hC1]; exact cmpV_zero _ _ _ _ _ _
        have qt : C1 > 0 ∨ C3 > 0 ∨ C4 ≤ 0 := by rw [← hC1, ← hC3, ← hC4]; exact cmpV_trans _ _ _ _ _ _ _ _ _
        have b2' : -1 ≤ C2 ∧ C2 ≤ 1 := by rw [← hC2]; exact cmpV_le _ _ _ _ _ _
        obtain ⟨b20, b21⟩ := b2'
        replace hC1 := Lib.hid hC1
        replace hC2 := Lib.hid hC2
        replace hC3 := Lib.hid hC3
        replace hC4 := Lib.hid hC4
        replace q12 := Lib.hid q12
        replace qz := Lib.hid qz
        replace qt := Lib.hid qt
        go_upto_region 18 with fail
        go_region_held3 (fun w' => w'.cell? ⟨w.heap.size + 1, 0, none⟩ = some (.int .i64 a) ∧ w'.cell? ⟨w.heap.size + 1, 1, none⟩ = some (.int .i64 b) ∧ w'.cell? ⟨w.heap.size + 1, 2, none⟩ = some (.int .i8 p) ∧ w'.cell? ⟨w.heap.size + 1 + 1, 0, none⟩ = some (.int .i64 a') ∧ w'.cell? ⟨w.heap.size + 1 + 1, 1, none⟩ = some (.int .i64 b') ∧ w'.cell? ⟨w.heap.size + 1 + 1, 2, none⟩ = some (.int .i8 p') ∧ w'.cell? ⟨w.heap.size + 1 + 1 + 1, 0, none⟩ = some (.int .i64 a2) ∧ w'.cell? ⟨w.heap.size + 1 + 1 + 1, 1, none⟩ = some (.int .i64 b2) ∧ w'.cell? ⟨w.heap.size + 1 + 1 + 1, 2, none⟩ = some (.int .i8 p2)) (exact ⟨hK.out.m0, hK.out.m1, hK.out.m2, hK.out.n0, hK.out.n1, hK.out.n2, hK.out.o0, hK.out.o1, hK.out.o2⟩)
          (first
          | (go_at_call 22; refine (pcmp _ _ _ _ _ _ _).mono ?_; rintro e w1 ⟨rfl, hb1⟩; (first | rw [hC1.out] | rw [hC2.out] | rw [hC3.out] | rw [hC4.out]); replace hK : Hid (HB f r a b p a' b' p' a2 b2 p2 w w1) := (by first | exact hK.out.next hb1 | exact hK.out.next (undrew hb1)); clear hb1))
        all_goals
          have w1n : IntKind.i64.wrap (- C2) = - C2 := IntWalk.i64_in _ (by omega)
          replace c0 := hK.out.c0
          replace c1 := hK.out.c1
          replace m0 := hK.out.m0
          replace m1 := hK.out.m1
          replace m2 := hK.out.m2
          replace n0 := hK.out.n0
          replace n1 := hK.out.n1
          replace n2 := hK.out.n2
          replace o0 := hK.out.o0
          replace o1 := hK.out.o1
          replace o2 := hK.out.o2
          have t1 : (C1 == -C2) = true := by rw [beq_iff_eq]; exact q12.out
          by_cases he : a = a' ∧ b = b' ∧ p = p'
          · have t2 : (C1 == 0) = true := by rw [beq_iff_eq]; exact qz.out.2 he
            have t3 : C4 ≤ 0 ∨ 0 < C3 := by have := qt.out; have := qz.out.2 he; omega
            have t5 : (0 < C1) = False := by rw [eq_iff_iff, iff_false]; have := qz.out.2 he; omega
            obtain ⟨rfl, rfl, rfl⟩ := he
            by_cases t6 : 0 < C3
            · go_wp2_with (go_at_call 11; refine (known_7 _ (hEW.out _ hK.out.below)).mono ?_; rintro e w9 ⟨rfl, hbw⟩; replace hK := Lib.hid (hK.out.next hbw); replace c0 := hK.out.c0; replace c1 := hK.out.c1; replace m0 := hK.out.m0; replace m1 := hK.out.m1; replace m2 := hK.out.m2; replace n0 := hK.out.n0; replace n1 := hK.out.n1; replace n2 := hK.out.n2; replace o0 := hK.out.o0; replace o1 := hK.out.o1; replace o2 := hK.out.o2; clear hbw)
              go_ret
              exact ⟨rfl, hK.out.below⟩
            · have t7 : C4 ≤ 0 := by omega
              replace t6 : (0 < C3) = False := by rw [eq_iff_iff, iff_false]; exact t6
              clear t3
              go_wp2_with (go_at_call 11; refine (known_7 _ (hEW.out _ hK.out.below)).mono ?_; rintro e w9 ⟨rfl, hbw⟩; replace hK := Lib.hid (hK.out.next hbw); replace c0 := hK.out.c0; replace c1 := hK.out.c1; replace m0 := hK.out.m0; replace m1 := hK.out.m1; replace m2 := hK.out.m2; replace n0 := hK.out.n0; replace n1 := hK.out.n1; replace n2 := hK.out.n2; replace o0 := hK.out.o0; replace o1 := hK.out.o1; replace o2 := hK.out.o2; clear hbw)
              go_ret
              exact ⟨rfl, hK.out.below⟩
          · have t2 : (C1 == 0) = false := by rw [beq_eq_false_iff_ne]; exact fun e => he (qz.out.1 e)
            have t3 := qt.out
            have hx : (a == a' && (b == b' && p == p')) = false := by
              rw [Bool.eq_false_iff]
              intro e
              simp only [Bool.and_eq_true, beq_iff_eq] at e
              exact he ⟨e.1, e.2.1, e.2.2⟩
            replace he := Lib.hid he
            by_cases ha : a = a'
            · subst ha
              by_cases hb : b = b'
              · subst hb
                have hp : (p == p') = false := by rw [beq_eq_false_iff_ne]; exact fun e => he.out ⟨rfl, rfl, e⟩
                clear hx
                by_cases t5 : 0 < C1
                · clear t3
                  go_wp2_with (go_at_call 11; refine (known_7 _ (hEW.out _ hK.out.below)).mono ?_; rintro e w9 ⟨rfl, hbw⟩; replace hK := Lib.hid (hK.out.next hbw); replace c0 := hK.out.c0; replace c1 := hK.out.c1; replace m0 := hK.out.m0; replace m1 := hK.out.m1; replace m2 := hK.out.m2; replace n0 := hK.out.n0; replace n1 := hK.out.n1; replace n2 := hK.out.n2; replace o0 := hK.out.o0; replace o1 := hK.out.o1; replace o2 := hK.out.o2; clear hbw)
                  go_ret
                  exact ⟨rfl, hK.out.below⟩
                · have t5n := Lib.hid t5
                  replace t5 : (0 < C1) = False := by rw [eq_iff_iff, iff_false]; exact t5
                  by_cases t6 : 0 < C3
                  · clear t3
                    go_wp2_with (go_at_call 11; refine (known_7 _ (hEW.out _ hK.out.below)).mono ?_; rintro e w9 ⟨rfl, hbw⟩; replace hK := Lib.hid (hK.out.next hbw); replace c0 := hK.out.c0; replace c1 := hK.out.c1; replace m0 := hK.out.m0; replace m1 := hK.out.m1; replace m2 := hK.out.m2; replace n0 := hK.out.n0; replace n1 := hK.out.n1; replace n2 := hK.out.n2; replace o0 := hK.out.o0; replace o1 := hK.out.o1; replace o2 := hK.out.o2; clear hbw)
                    go_ret
                    exact ⟨rfl, hK.out.below⟩
                  · have t7 : C4 ≤ 0 := by have h5 := t5n.out; omega
                    replace t6 : (0 < C3) = False := by rw [eq_iff_iff, iff_false]; exact t6
                    clear t3
                    go_wp2_with (go_at_call 11; refine (known_7 _ (hEW.out _ hK.out.below)).mono ?_; rintro e w9 ⟨rfl, hbw⟩; replace hK := Lib.hid (hK.out.next hbw); replace c0 := hK.out.c0; replace c1 := hK.out.c1; replace m0 := hK.out.m0; replace m1 := hK.out.m1; replace m2 := hK.out.m2; replace n0 := hK.out.n0; replace n1 := hK.out.n1; replace n2 := hK.out.n2; replace o0 := hK.out.o0; replace o1 := hK.out.o1; replace o2 := hK.out.o2; clear hbw)
                    go_ret
                    exact ⟨rfl, hK.out.below⟩
              · have hb' : (b == b') = false := by rw [beq_eq_false_iff_ne]; exact hb
                clear hx hb
                by_cases t5 : 0 < C1
                · clear t3
                  go_wp2_with (go_at_call 11; refine (known_7 _ (hEW.out _ hK.out.below)).mono ?_; rintro e w9 ⟨rfl, hbw⟩; replace hK := Lib.hid (hK.out.next hbw); replace c0 := hK.out.c0; replace c1 := hK.out.c1; replace m0 := hK.out.m0; replace m1 := hK.out.m1; replace m2 := hK.out.m2; replace n0 := hK.out.n0; replace n1 := hK.out.n1; replace n2 := hK.out.n2; replace o0 := hK.out.o0; replace o1 := hK.out.o1; replace o2 := hK.out.o2; clear hbw)
                  go_ret
                  exact ⟨rfl, hK.out.below⟩
                · have t5n := Lib.hid t5
                  replace t5 : (0 < C1) = False := by rw [eq_iff_iff, iff_false]; exact t5
                  by_cases t6 : 0 < C3
                  · clear t3
                    go_wp2_with (go_at_call 11; refine (known_7 _ (hEW.out _ hK.out.below)).mono ?_; rintro e w9 ⟨rfl, hbw⟩; replace hK := Lib.hid (hK.out.next hbw); replace c0 := hK.out.c0; replace c1 := hK.out.c1; replace m0 := hK.out.m0; replace m1 := hK.out.m1; replace m2 := hK.out.m2; replace n0 := hK.out.n0; replace n1 := hK.out.n1; replace n2 := hK.out.n2; replace o0 := hK.out.o0; replace o1 := hK.out.o1; replace o2 := hK.out.o2; clear hbw)
                    go_ret
                    exact ⟨rfl, hK.out.below⟩
                  · have t7 : C4 ≤ 0 := by have h5 := t5n.out; omega
                    replace t6 : (0 < C3) = False := by rw [eq_iff_iff, iff_false]; exact t6
                    clear t3
                    go_wp2_with (go_at_call 11; refine (known_7 _ (hEW.out _ hK.out.below)).mono ?_; rintro e w9 ⟨rfl, hbw⟩; replace hK := Lib.hid (hK.out.next hbw); replace c0 := hK.out.c0; replace c1 := hK.out.c1; replace m0 := hK.out.m0; replace m1 := hK.out.m1; replace m2 := hK.out.m2; replace n0 := hK.out.n0; replace n1 := hK.out.n1; replace n2 := hK.out.n2; replace o0 := hK.out.o0; replace o1 := hK.out.o1; replace o2 := hK.out.o2; clear hbw)
                    go_ret
                    exact ⟨rfl, hK.out.below⟩
            · have ha' : (a == a') = false := by rw [beq_eq_false_iff_ne]; exact ha
              clear hx ha
              by_cases t5 : 0 < C1
              · clear t3
                go_wp2_with (go_at_call 11; refine (known_7 _ (hEW.out _ hK.out.below)).mono ?_; rintro e w9 ⟨rfl, hbw⟩; replace hK := Lib.hid (hK.out.next hbw); replace c0 := hK.out.c0; replace c1 := hK.out.c1; replace m0 := hK.out.m0; replace m1 := hK.out.m1; replace m2 := hK.out.m2; replace n0 := hK.out.n0; replace n1 := hK.out.n1; replace n2 := hK.out.n2; replace o0 := hK.out.o0; replace o1 := hK.out.o1; replace o2 := hK.out.o2; clear hbw)
                go_ret
                exact ⟨rfl, hK.out.below⟩
              · have t5n := Lib.hid t5
                replace t5 : (0 < C1) = False := by rw [eq_iff_iff, iff_false]; exact t5
                by_cases t6 : 0 < C3
                · clear t3
                  go_wp2_with (go_at_call 11; refine (known_7 _ (hEW.out _ hK.out.below)).mono ?_; rintro e w9 ⟨rfl, hbw⟩; replace hK := Lib.hid (hK.out.next hbw); replace c0 := hK.out.c0; replace c1 := hK.out.c1; replace m0 := hK.out.m0; replace m1 := hK.out.m1; replace m2 := hK.out.m2; replace n0 := hK.out.n0; replace n1 := hK.out.n1; replace n2 := hK.out.n2; replace o0 := hK.out.o0; replace o1 := hK.out.o1; replace o2 := hK.out.o2; clear hbw)
                  go_ret
                  exact ⟨rfl, hK.out.below⟩
                · have t7 : C4 ≤ 0 := by have h5 := t5n.out; omega
                  replace t6 : (0 < C3) = False := by rw [eq_iff_iff, iff_false]; exact t6
                  clear t3
                  go_wp2_with (go_at_call 11; refine (known_7 _ (hEW.out _ hK.out.below)).mono ?_; rintro e w9 ⟨rfl, hbw⟩; replace hK := Lib.hid (hK.out.next hbw); replace c0 := hK.out.c0; replace c1 := hK.out.c1; replace m0 := hK.out.m0; replace m1 := hK.out.m1; replace m2 := hK.out.m2; replace n0 := hK.out.n0; replace n1 := hK.out.n1; replace n2 := hK.out.n2; replace o0 := hK.out.o0; replace o1 := hK.out.o1; replace o2 := hK.out.o2; clear hbw)
                  go_ret
                  exact ⟨rfl, hK.out.below⟩
theorem law_holds (f r : Int) (A : Option Addr) (c : Nat) (l : List Mv) (s : ByteArray) (a b p a' b' p' a2 b2 p2 : Int) (w : World) (hE : EnvAt w) (hA : RecAt mEnc 3 w w.heap.size A l) (hm : l.length ≤ maxLen) (hs : s.size ≤ maxLen) : Calls Tryd.prog 8 #[.agg #[.int .i64 f, .int .i64 r], .slice A l.length c, .string s, .agg #[.int .i64 a, .int .i64 b, .int .i8 p], .agg #[.int .i64 a', .int .i64 b', .int .i8 p'], .agg #[.int .i64 a2, .int .i64 b2, .int .i8 p2]] w fun e w' => e = .returned (.bool true) ∧ Below w.heap.size w w' := by
  cases h : szB f r
  · exact holds_out f r A c l s a b p a' b' p' a2 b2 p2 w hE (.inl h)
  · by_cases h1 : 40 < l.length
    · exact holds_out f r A c l s a b p a' b' p' a2 b2 p2 w hE (.inr (.inl ⟨h, h1, hm⟩))
    · by_cases h2 : 300 < s.size
      · exact holds_out f r A c l s a b p a' b' p' a2 b2 p2 w hE (.inr (.inr ⟨h, by omega, h2, hs⟩))
      · exact holds_in f r A c l s a b p a' b' p' a2 b2 p2 w hE hA h (by omega) (by omega)
end Go.Proofs.YtlnphcdanadaeaaDoor
