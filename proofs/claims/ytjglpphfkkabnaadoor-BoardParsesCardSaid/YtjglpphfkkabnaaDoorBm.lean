/- Layer 3: the examples of the chapter. -/
import Derived.Test.YtjglpphfkkabnaaDoorBl
namespace Go.Proofs.YtjglpphfkkabnaaDoor
open Go.RowKit
set_option linter.unusedSimpArgs false
set_option linter.unusedVariables false

/-- a board in three cells of a block -/
structure BD (f r : Int) (l : List Int) (A : Option Addr) (c : Nat) (B : Nat) (W : World) : Prop where
  t : Tri W B (.int .i64 f) (.int .i64 r) (.slice A l.length c)
  p : PcsAt W W.heap.size A l
section
variable {f r : Int} {l : List Int} {A : Option Addr} {c B : Nat} {W W' : World}
theorem BD.next (h : BD f r l A c B W) (hb : Below W.heap.size W W') : BD f r l A c B W' := ⟨h.t.next hb, (h.p.below (Nat.le_refl _) hb).more hb.size⟩
theorem BD.alloc (h : BD f r l A c B W) (o : Obj) : BD f r l A c B (W.alloc o) := h.next ((Below.refl _ _).alloc (Nat.le_refl _) o)
theorem BD.drew (h : BD f r l A c B W) : BD f r l A c B W.drew := ⟨h.t.drew, h.p⟩
theorem BD.made {base : Nat} {e : TypeId} {w0 w : World} (h : O1 qEnc 1 base e w0 w A c l) (f r : Int) (t : TypeId) : BD f r l A c w.heap.size (w.alloc (.cells #[.int .i64 f, .int .i64 r, .slice A l.length c] t)) :=
  ⟨tri_new _ _ _ _ _ _ rfl, RecAt.of_own qEnc_len rfl (h.alloc _).own⟩
end
theorem below_all {w W W' : World} (h : Below w.heap.size w W) (h2 : Below W.heap.size W W') : Below w.heap.size w W' := h.trans (h2.mono h.size)
def kE : List Int := List.replicate 12 0
def kP : List Int := kE.set 4 (-6)
def kC : List Int := [0, 0, 6, 0, 0, 0, -6, 0, 0]
def kD : List Int := [4, 2, 3, 5, 6, 1, 1, 1, 1, 1, 0, 0, 0, 0, 0, -4, -2, -3, -5, -6]
def kStr : List ByteArray := [⟨#[107, 50, 47, 49, 49, 49, 47, 50, 75]⟩, ⟨#[107, 50, 47, 51, 47, 51, 75]⟩, ⟨#[107, 50, 47, 50, 75]⟩, ⟨#[107, 50, 47, 52, 47, 50, 75]⟩, ⟨#[120, 50, 47, 51, 47, 50, 75]⟩]
theorem kStr_ok : ∀ x, x ∈ kStr → parB x = none ∧ x.size ≤ 1000 := by decide +kernel
theorem kc1 (w : World) : Calls Tryd.prog 12 #[.agg #[.int .i64 3, .int .i64 4]] w (NewBE 3 4 kE 0 w) := pempty_yes 3 4 w (by decide) 12 (by decide) (by decide)
theorem kc2 (A : Option Addr) (c : Nat) (w : World) (hA : PcsAt w w.heap.size A kE) (hE : EnvAt w) (hc : kE.length ≤ c) : Calls Tryd.prog 28 #[bV 3 4 A kE.length c] w fun e w' => e = .returned (.tuple #[.string ⟨#[51, 47, 51, 47, 51, 47, 51]⟩, .int .i64 0]) ∧ Below w.heap.size w w' := by
  have h := ptext_yes 3 4 A c kE w hA hE hc (by decide +kernel)
  rw [show boardT 3 4 kE = ⟨#[51, 47, 51, 47, 51, 47, 51]⟩ by decide +kernel] at h
  exact h
theorem kc3 (A : Option Addr) (c : Nat) (w : World) (hA : PcsAt w w.heap.size A kE) : Calls Tryd.prog 13 #[bV 3 4 A kE.length c, .int .i64 4, .int .i8 (-6)] w (NewBE 3 4 kP 0 w) :=
  pput_yes 3 4 A c kE 4 (-6) w hA (by decide) (by decide +kernel) (by decide) (by decide)
theorem kc4 (A : Option Addr) (c : Nat) (w : World) (hA : PcsAt w w.heap.size A kP) (hE : EnvAt w) (hc : kP.length ≤ c) : Calls Tryd.prog 28 #[bV 3 4 A kP.length c] w fun e w' => e = .returned (.tuple #[.string ⟨#[51, 47, 51, 47, 49, 107, 49, 47, 51]⟩, .int .i64 0]) ∧ Below w.heap.size w w' := by
  have h := ptext_yes 3 4 A c kP w hA hE hc (by decide +kernel)
  rw [show boardT 3 4 kP = ⟨#[51, 47, 51, 47, 49, 107, 49, 47, 51]⟩ by decide +kernel] at h
  exact h
theorem kpy {s : ByteArray} {f r : Nat} {l : List Int} (w : World) (hE : EnvAt w) (hs : s.size ≤ 1000) (h : parB s = some (f, r, l)) : Calls Tryd.prog 30 #[.string s] w (NewBE (f : Int) (r : Int) l 0 w) := by
  refine (pbparse s w hE hs).mono fun e w' h2 => ?_
  unfold PB at h2
  rw [h] at h2
  exact h2
theorem kpn {s : ByteArray} (w : World) (hE : EnvAt w) (hs : s.size ≤ 1000) (h : parB s = none) : Calls Tryd.prog 30 #[.string s] w (NewBE 0 0 [] 6 w) := by
  refine (pbparse s w hE hs).mono fun e w' h2 => ?_
  unfold PB at h2
  rw [h] at h2
  exact h2
theorem kc5 (w : World) (hE : EnvAt w) : Calls Tryd.prog 30 #[.string ⟨#[107, 50, 47, 51, 47, 50, 75]⟩] w (NewBE 3 3 kC 0 w) := kpy w hE (by decide) (by decide +kernel)
theorem kc6 (A : Option Addr) (c : Nat) (w : World) (hA : PcsAt w w.heap.size A kC) : Calls Tryd.prog 21 #[bV 3 3 A kC.length c, .int .i8 6] w fun e w' => e = .returned (.tuple #[.int .u64 4, .int .i64 0]) ∧ Below w.heap.size w w' := by
  have h := pfind_yes 3 3 A c kC 6 w hA (by decide) (by decide +kernel) (by decide)
  rw [show wA (fun p : Int => p == 6) kC = 4 by decide +kernel] at h
  exact h
theorem kc7 (A : Option Addr) (c : Nat) (w : World) (hA : PcsAt w w.heap.size A kC) : Calls Tryd.prog 22 #[bV 3 3 A kC.length c] w fun e w' => e = .returned (.tuple #[.int .u64 4, .int .u64 64, .int .i64 0]) ∧ Below w.heap.size w w' := by
  have h := psides_yes 3 3 A c kC w hA (by decide) (by decide +kernel)
  rw [show wA (fun p : Int => decide (0 < p)) kC = 4 by decide +kernel, show wA (fun p : Int => decide (p < 0)) kC = 64 by decide +kernel] at h
  exact h
theorem kc8 (A : Option Addr) (c : Nat) (w : World) (hA : PcsAt w w.heap.size A kC) (hE : EnvAt w) : Calls Tryd.prog 23 #[bV 3 3 A kC.length c] w fun e w' => e = .returned (.tuple #[.int .i64 0, .int .i64 0, .int .i64 0]) ∧ Below w.heap.size w w' := by
  have h := pmat_yes 3 3 A c kC w hA (by decide) (by decide +kernel) hE
  rw [show sM wP kC kC.length = 0 by decide +kernel, show sM nP kC kC.length = 0 by decide +kernel] at h
  exact h
theorem kc9 (w : World) (hE : EnvAt w) : Calls Tryd.prog 30 #[.string ⟨#[114, 110, 98, 113, 107, 47, 53, 47, 80, 80, 80, 80, 80, 47, 82, 78, 66, 81, 75]⟩] w (NewBE 5 4 kD 0 w) := kpy w hE (by decide) (by decide +kernel)
theorem kc10 (A : Option Addr) (c : Nat) (w : World) (hA : PcsAt w w.heap.size A kD) (hE : EnvAt w) : Calls Tryd.prog 23 #[bV 5 4 A kD.length c] w fun e w' => e = .returned (.tuple #[.int .i64 25, .int .i64 20, .int .i64 0]) ∧ Below w.heap.size w w' := by
  have h := pmat_yes 5 4 A c kD w hA (by decide) (by decide +kernel) hE
  rw [show sM wP kD kD.length = 25 by decide +kernel, show sM nP kD kD.length = 20 by decide +kernel] at h
  exact h
theorem kEl : 0 < kE.length := by decide
theorem kPl : 0 < kP.length := by decide
set_option maxRecDepth 100000 in
set_option maxHeartbeats 2000000 in
theorem known_3 (w : World) (hE : EnvAt w) : Calls Tryd.prog 10 #[] w fun e w' => e = .returned (.bool true) ∧ Below w.heap.size w w' := by
  have hEW : Hid (∀ W, Below w.heap.size w W → EnvAt W) := fun W hb => hE.next hb
  clear hE
  go_enter Tryd.func10, Tryd.ntmps10
  go_wp2_with fail
  go_at_call 12
  refine (kc1 _).mono ?_
  rintro e w1 ⟨A1, c1, rfl, hO⟩
  replace hO := Lib.hid hO
  go_upto_region 2 with fail
  have hc1 := Lib.hid (own_cap hO.out.own kEl)
  have hb := Lib.hid (hO.out.alloc (.cells #[.int .i64 3, .int .i64 4, .slice A1 kE.length c1] 26)).below
  have hD := Lib.hid (BD.made hO.out 3 4 26)
  clear hO
  generalize hB1 : w1.heap.size = B1 at *
  generalize w1.alloc (.cells #[.int .i64 3, .int .i64 4, .slice A1 kE.length c1] 26) = w2 at *
  clear hB1
  have c0 := hD.out.t.c0
  have c1' := hD.out.t.c1
  have c2 := hD.out.t.c2
  go_upto_region 3 with (go_at_call 28; refine (kc2 _ _ _ hD.out.p (hEW.out _ hb.out) hc1.out).mono ?_; rintro e w3 ⟨rfl, hbw⟩; replace hb := Lib.hid (below_all hb.out hbw); replace hD := Lib.hid (hD.out.next hbw); replace c0 := hD.out.t.c0; replace c1' := hD.out.t.c1; replace c2 := hD.out.t.c2; clear hbw)
  go_wp2_with fail
  go_at_call 13
  refine (kc3 _ _ _ hD.out.p).mono ?_
  rintro e w4 ⟨A2, c3, rfl, hO⟩
  replace hO := Lib.hid hO
  go_upto_region 4 with fail
  clear c0 c1' c2 hD hc1
  have hc1 := Lib.hid (own_cap hO.out.own kPl)
  replace hb := Lib.hid (below_all hb.out (hO.out.alloc (.cells #[.int .i64 3, .int .i64 4, .slice A2 kP.length c3] 26)).below)
  have hD := Lib.hid (BD.made hO.out 3 4 26)
  clear hO
  generalize hB2 : w4.heap.size = B2 at *
  generalize w4.alloc (.cells #[.int .i64 3, .int .i64 4, .slice A2 kP.length c3] 26) = w5 at *
  clear hB2
  have c0 := hD.out.t.c0
  have c1' := hD.out.t.c1
  have c2 := hD.out.t.c2
  go_upto_region 5 with (go_at_call 28; refine (kc4 _ _ _ hD.out.p (hEW.out _ hb.out) hc1.out).mono ?_; rintro e w6 ⟨rfl, hbw⟩; replace hb := Lib.hid (below_all hb.out hbw); clear hbw)
  clear c0 c1' c2 hD hc1
  go_wp2_with fail
  go_at_call 30
  refine (kc5 _ (hEW.out _ hb.out)).mono ?_
  rintro e w7 ⟨A3, c5, rfl, hO⟩
  replace hO := Lib.hid hO
  go_upto_region 8 with fail
  replace hb := Lib.hid (below_all hb.out (hO.out.alloc (.cells #[.int .i64 3, .int .i64 3, .slice A3 kC.length c5] 26)).below)
  have hD := Lib.hid (BD.made hO.out 3 3 26)
  clear hO
  generalize hB3 : w7.heap.size = B3 at *
  generalize w7.alloc (.cells #[.int .i64 3, .int .i64 3, .slice A3 kC.length c5] 26) = w8 at *
  clear hB3
  have c0 := hD.out.t.c0
  have c1' := hD.out.t.c1
  have c2 := hD.out.t.c2
  go_upto_region 13 with (first
    | (go_at_call 21; refine (kc6 _ _ _ hD.out.p).mono ?_; rintro e w3 ⟨rfl, hbw⟩; replace hb := Lib.hid (below_all hb.out hbw); replace hD := Lib.hid (hD.out.next hbw); replace c0 := hD.out.t.c0; replace c1' := hD.out.t.c1; replace c2 := hD.out.t.c2; clear hbw)
    | (go_at_call 22; refine (kc7 _ _ _ hD.out.p).mono ?_; rintro e w3 ⟨rfl, hbw⟩; replace hb := Lib.hid (below_all hb.out hbw); replace hD := Lib.hid (hD.out.next hbw); replace c0 := hD.out.t.c0; replace c1' := hD.out.t.c1; replace c2 := hD.out.t.c2; clear hbw)
    | (go_at_call 23; refine (kc8 _ _ _ hD.out.p (hEW.out _ hb.out)).mono ?_; rintro e w3 ⟨rfl, hbw⟩; replace hb := Lib.hid (below_all hb.out hbw); replace hD := Lib.hid (hD.out.next hbw); replace c0 := hD.out.t.c0; replace c1' := hD.out.t.c1; replace c2 := hD.out.t.c2; clear hbw))
  clear c0 c1' c2 hD
  go_wp2_with fail
  go_loopw [16, 17, 18, 121] (fun _ _ _ i wr => ∃ k : Nat, k ≤ 5 ∧ i = .int .i64 k ∧ Hid (Below w.heap.size w wr) ∧ Hid (∀ (j : Nat) (x : ByteArray), kStr[j]? = some x → wr.cell? ⟨w3.heap.size, j, none⟩ = some (.string x)) ∧ Hid (w3.heap.size < wr.heap.size)) (fun _ _ _ i _ => 5 - (intOf i).toNat)
  case atStart =>
    refine ⟨0, by omega, rfl, below_all hb.out ((Below.refl _ _).alloc (Nat.le_refl _) _), ?_, by show _ < _; simp⟩
    intro j x hx
    match j, hx with
    | 0, hx => obtain rfl := Option.some.inj hx; simp
    | 1, hx => obtain rfl := Option.some.inj hx; simp
    | 2, hx => obtain rfl := Option.some.inj hx; simp
    | 3, hx => obtain rfl := Option.some.inj hx; simp
    | 4, hx => obtain rfl := Option.some.inj hx; simp
    | (j + 5), hx => simp [kStr] at hx
  case round =>
    clear hb
    obtain ⟨k, hk, rfl, hb, hcs, hlt⟩ := hrel
    generalize w3.heap.size = g at *
    by_cases hkn : k < 5
    · obtain ⟨x, hx⟩ : ∃ x, kStr[k]? = some x := ⟨_, List.getElem?_eq_getElem hkn⟩
      have m0 := hcs.out k x hx
      obtain ⟨hx1, hx2⟩ := kStr_ok x (List.mem_of_getElem? hx)
      have hpx := Lib.hid (kpn _ (hEW.out _ hb.out) hx2 hx1)
      clear hx hx1 hx2
      go_wp2_with fail
      go_at_call 30
      refine hpx.out.mono ?_
      rintro e w9 ⟨A9, c9, rfl, hO⟩
      replace hO := Lib.hid hO
      clear hpx m0
      go_wp2_with fail
      have hbo := (hO.out.alloc (.cells #[.int .i64 0, .int .i64 0, .slice A9 0 c9] 26)).below
      go_roundw
      case rel => exact ⟨k + 1, by omega, by go_num, below_all hb.out hbo, fun j x hx => (hbo.cell (p := ⟨g, j, none⟩) hlt.out).trans (hcs.out j x hx), by have := hbo.size; have := hlt.out; show _ < _; omega⟩
      case measure => simp [intOf]; omega
    · obtain rfl : k = 5 := by omega
      clear hcs hlt
      go_wp2_with fail
      go_at_call 30
      refine (kc9 _ (hEW.out _ hb.out)).mono ?_
      rintro e w7 ⟨A3, c5, rfl, hO⟩
      replace hO := Lib.hid hO
      go_upto_region 21 with fail
      replace hb := Lib.hid (below_all hb.out (hO.out.alloc (.cells #[.int .i64 5, .int .i64 4, .slice A3 kD.length c5] 26)).below)
      have hD := Lib.hid (BD.made hO.out 5 4 26)
      clear hO
      generalize hB3 : w7.heap.size = B3 at *
      generalize w7.alloc (.cells #[.int .i64 5, .int .i64 4, .slice A3 kD.length c5] 26) = w8 at *
      clear hB3
      have c0 := hD.out.t.c0
      have c1' := hD.out.t.c1
      have c2 := hD.out.t.c2
      go_wp2_with (go_at_call 23; refine (kc10 _ _ _ hD.out.p (hEW.out _ hb.out)).mono ?_; rintro e w3 ⟨rfl, hbw⟩; replace hb := Lib.hid (below_all hb.out hbw); clear hbw)
      go_ret
      exact ⟨rfl, hb.out⟩
end Go.Proofs.YtjglpphfkkabnaaDoor
